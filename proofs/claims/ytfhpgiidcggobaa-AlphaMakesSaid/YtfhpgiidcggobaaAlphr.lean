import Derived.Test.YtfhpgiidcggobaaAlph
import Derived.Test.YtfhpgiidcggobaaQuiet
set_option linter.unusedVariables false
namespace Go.Proofs.Ytfhpgiidcggobaa
open Go.RowKit

theorem rises_step {a b : List Bool} {k : Nat} {x y : Bool} (hx : a[k]? = some x) (hy : b[k]? = some y) : risesB (a.drop k) (b.drop k) = if x = y then risesB (a.drop (k + 1)) (b.drop (k + 1)) else y := by
  rw [drop_next hx, drop_next hy, risesB]
theorem rises_end {a b : List Bool} {k : Nat} (h : a.length ≤ k ∨ b.length ≤ k) : risesB (a.drop k) (b.drop k) = false := by
  rcases h with h | h
  · rw [List.drop_of_length_le h]; cases b.drop k <;> rfl
  · rw [List.drop_of_length_le h]; cases a.drop k <;> rfl
set_option maxHeartbeats 400000 in
theorem ref_Rises (A A' : Option Addr) (n n' c c' : Nat) (a b : List Bool) (q : Bool) (w : World) {B B' : Nat} (h : Reads w B A n (vb a)) (h' : Reads w B' A' n' (vb b)) (hn : n ≤ 1000) (hn' : n' ≤ 1000) (hr : Hid (risesB a b = q)) :
    Calls Try.prog 48 #[.slice A n c, .slice A' n' c'] w (RetQ w (.bool q)) := by
  have H := Lib.hid h.bool_len
  have H' := Lib.hid h'.bool_len
  go_enter Try.func48, Try.ntmps48
  go_wp2
  go_loopw [5] (fun i wr => ∃ k m : Nat, i = .int .i64 k ∧ k ≤ n ∧ wr = w.drewN m ∧ Hid (risesB (a.drop k) (b.drop k) = q)) (fun i _ => n - (intOf i).toNat)
  case atStart => exact ⟨0, 0, rfl, by omega, rfl, by simpa using hr⟩
  case round =>
    obtain ⟨k, m, rfl, hkn, rfl, hst⟩ := hrel
    by_cases h1 : k < n
    · by_cases h2 : k < n'
      · obtain ⟨ad, x, rfl, hb, hx, hc⟩ := h.bool_at h1
        obtain ⟨ad', y, rfl, hb', hy, hc'⟩ := h'.bool_at h2
        have hs := rises_step hx hy
        rw [hst.out] at hs
        have i0 : (0 : Int) ≤ (k : Int) := by omega
        have i1 : (k : Int) < (n : Int) := by omega
        have i2 : (k : Int) < (n' : Int) := by omega
        have d1 : decide ((k : Int) < (n : Int)) = true := by simp; omega
        have d2 : decide ((k : Int) < (n' : Int)) = true := by simp; omega
        clear hx hy hst
        by_cases he : x = y
        · subst he
          rw [if_pos rfl] at hs
          have HS := Lib.hid hs.symm
          have ht : (x != x) = false := by simp
          clear hs
          go_wp2
          go_quiet (fail)
          go_wp2
          go_roundw
          case rel => exact ⟨k + 1, m + nq, by go_num, by omega, by first | rfl | rw [World.drewN_drewN], HS⟩
          case measure => simp [intOf]; omega
        · rw [if_neg he] at hs
          subst hs
          obtain rfl : x = !q := by cases x <;> cases q <;> simp_all
          clear he
          cases q
          all_goals
            go_wp2
            go_quiet (fail)
            go_wp2
            go_ret
            exact ⟨rfl, m + nq, by first | rfl | rw [World.drewN_drewN]⟩
      · have hq : Hid (q = false) := by unfold Hid; rw [← hst.out]; exact rises_end (.inr (by rw [H'.out]; omega))
        have i1 : (k : Int) < (n : Int) := by omega
        have i2 : ¬ (k : Int) < (n' : Int) := by omega
        have d1 : decide ((k : Int) < (n : Int)) = true := by simp; omega
        have d2 : decide ((k : Int) < (n' : Int)) = false := by simp; omega
        go_wp2
        go_ret
        exact ⟨ret_b hq.out.symm, m, rfl⟩
    · have hq : Hid (q = false) := by unfold Hid; rw [← hst.out]; exact rises_end (.inl (by rw [H.out]; omega))
      have i1 : ¬ (k : Int) < (n : Int) := by omega
      have d1 : decide ((k : Int) < (n : Int)) = false := by simp; omega
      go_wp2
      go_ret
      exact ⟨ret_b hq.out.symm, m, rfl⟩
end Go.Proofs.Ytfhpgiidcggobaa

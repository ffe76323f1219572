import Derived.Test.YtmepiiheidmbgaaOwnr
import Derived.Test.YtmepiiheidmbgaaBools
import Derived.Test.YtmepiiheidmbgaaQuiet
set_option linter.unusedVariables false
namespace Go.Proofs.Ytmepiiheidmbgaa
open Go.RowKit

theorem Rows.brow {w : World} {B : Nat} {A : Option Addr} {n : Nat} {ls : List (List Bool)} (h : Rows w B A n (ls.map vb)) {k : Nat} (hk : k < n) :
    ∃ ad l A' n' c', A = some ad ∧ ls[k]? = some l ∧ w.cell? (ad.add k) = some (.slice A' n' c') ∧ Reads w B A' n' (vb l) := by
  obtain ⟨ad, xs, A', n', c', h1, _, h2, h3, h4⟩ := h.row hk
  rw [List.getElem?_map] at h2
  obtain ⟨l, hl, rfl⟩ := Option.map_eq_some_iff.1 h2
  exact ⟨ad, l, A', n', c', h1, hl, h3, h4⟩
set_option maxHeartbeats 800000 in
theorem ref_Lists (A A' : Option Addr) (n n' c c' : Nat) (ls ls' : List (List Bool)) (b : Bool) (w : World) {B B' : Nat} (h : Rows w B A n (ls.map vb)) (h' : Rows w B' A' n' (ls'.map vb)) (hn : n ≤ 1000) (hl : ∀ l ∈ ls, l.length ≤ 1000) (hr : Hid (decide (ls = ls') = b)) :
    Calls Try.prog 20 #[.slice A n c, .slice A' n' c'] w (RetQ w (.bool b)) := by
  have H : Hid (ls.length = n) := by have := h.length; rwa [List.length_map] at this
  have H' : Hid (ls'.length = n') := by have := h'.length; rwa [List.length_map] at this
  have HL := Lib.hid hl
  by_cases hne : n = n'
  · subst hne
    go_enter Try.func20, Try.ntmps20
    go_wp2
    go_loopw [5] (fun i wr => ∃ k m : Nat, k ≤ n ∧ i = .int .i64 k ∧ wr = w.drewN m ∧ Hid (ls.take k = ls'.take k)) (fun i _ => n - (intOf i).toNat)
    case atStart => exact ⟨0, 0, by omega, rfl, rfl, rfl⟩
    case round =>
      obtain ⟨k, m, hk, rfl, rfl, hall⟩ := hrel
      by_cases hlt : k < n
      · obtain ⟨ad, l, A1, n1, c1, rfl, hx, hc, hr1⟩ := h.brow hlt
        obtain ⟨ad', l', A2, n2, c2, rfl, hx', hc', hr2⟩ := h'.brow hlt
        have HX := Lib.hid hx
        have HX' := Lib.hid hx'
        have h1000 := HL.out l (mem_at hx)
        have hm1 : n1 ≤ maxLen := by have := hr1.bool_len; unfold maxLen; omega
        have cb := fun (t : Nat) (q : Bool) (hq : Hid (decide (l = l') = q)) => ref_Bools A1 A2 n1 n2 c1 c2 l l' q (w.drewN t) (hr1.drewN t) (hr2.drewN t) hm1 hq
        clear hx hx' h1000
        have i1 : (0 : Int) ≤ (k : Int) := by omega
        have i2 : (k : Int) < (n : Int) := by omega
        by_cases he : l = l'
        · have HA : Hid (ls.take (k + 1) = ls'.take (k + 1)) := by unfold Hid; rw [take_next HX.out, take_next HX'.out, hall.out, he]
          have cb := fun t => cb t true (by unfold Hid; simpa using he)
          clear he
          go_wp2
          go_quiet ((go_at_call 16; first | exact quietQ (cb _) | exact quietQ2 (cb _)))
          go_wp2
          go_roundw
          case rel => exact ⟨k + 1, m + nq, by omega, by go_num, by first | rfl | rw [World.drewN_drewN], HA⟩
          case measure => simp [intOf]; omega
        · have HB : Hid (b = false) := by
            unfold Hid; rw [← hr.out]; simp only [decide_eq_false_iff_not]
            intro e; subst e; have := HX.out.symm.trans HX'.out; injection this with this; exact he this
          have cb := fun t => cb t false (by unfold Hid; simpa using he)
          clear he
          go_wp2
          go_quiet ((go_at_call 16; first | exact quietQ (cb _) | exact quietQ2 (cb _)))
          go_wp2
          go_ret
          exact ⟨ret_b HB.out.symm, m + nq, by first | rfl | rw [World.drewN_drewN]⟩
      · obtain rfl : k = n := by omega
        have HB : Hid (b = true) := by
          unfold Hid; rw [← hr.out]; simp only [decide_eq_true_eq]
          have := hall.out
          rwa [List.take_of_length_le (Nat.le_of_eq H.out), List.take_of_length_le (Nat.le_of_eq H'.out)] at this
        go_wp2
        go_ret
        exact ⟨ret_b HB.out.symm, m, rfl⟩
  · have HB : Hid (b = false) := by
      unfold Hid; rw [← hr.out]; simp only [decide_eq_false_iff_not]
      intro e; subst e; exact hne (H.out.symm.trans H'.out)
    have ht : ((n : Int) != (n' : Int)) = true := by simp; omega
    go_enter Try.func20, Try.ntmps20
    go_wp2
    go_ret
    exact ⟨ret_b HB.out.symm, 0, rfl⟩
end Go.Proofs.Ytmepiiheidmbgaa

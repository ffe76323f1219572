import Derived.Test.YtfhpgiidcggobaaAlphr
import Derived.Test.YtfhpgiidcggobaaLists
import Derived.Test.YtfhpgiidcggobaaKraft
set_option linter.unusedVariables false
namespace Go.Proofs.Ytfhpgiidcggobaa
open Go.RowKit

/-- what comes back: none, or rows of the call's own -/
abbrev PostA (w : World) (E : TypeId) (bad : Ending) (good : Option Addr → Nat → Nat → Ending) : Option (List (List Bool)) → Ending → World → Prop
  | none => fun e w' => Below w.heap.size w w' ∧ e = bad
  | some ls => fun e w' => Below w.heap.size w w' ∧ ∃ A' n' c', e = good A' n' c' ∧ OwnR w' w.heap.size E (.slice A' n' c') (ls.map vb) ∧ n' ≤ 8
def xNext (pos P : Nat) : Nat := (pos + P - 1) / P
def alF : List Nat → List (List Bool) → Nat → Option (List (List Bool))
  | [], ls, _ => some ls
  | n :: t, ls, pos => if 256 < xNext pos (2 ^ (8 - n)) * 2 ^ (8 - n) + 2 ^ (8 - n) then none
      else alF t (ls ++ [digitsL (xNext pos (2 ^ (8 - n))) n]) (xNext pos (2 ^ (8 - n)) * 2 ^ (8 - n) + 2 ^ (8 - n))
theorem el_rows : Elem Try.prog 22 24 (.slice none 0 0) 24 := Elem.mk' Try.underlying22 (by kernel_rfl) rfl
theorem Own.within {w : World} {base : Nat} {E : TypeId} {A : Option Addr} {n c : Nat} {xs : List Value} (h : Own w base E (.slice A n c) xs) : ∀ ad, A = some ad → ad.block < w.heap.size := by
  intro ad e
  subst e
  exact (Own.lt h ad.block rfl).2
set_option maxHeartbeats 800000 in
theorem alpha_Make (A : Option Addr) (n c : Nat) (ns : List Nat) (R : Option (List (List Bool))) (w : World) (h : Reads w w.heap.size A n (vn .i64 ns)) (hn : n ≤ 8) (hl : ∀ x ∈ ns, x ≤ 8) (cs : ∃ a, Calls Try.prog 45 #[.slice A n c] w (Ret w (.tuple #[.int .i64 a, .int .i64 0]))) (hR : Hid (alF ns [] 0 = R)) :
    Calls Try.prog 21 #[.slice A n c] w (PostA w 24 (.returned (.tuple #[.slice none 0 0, .int .i64 5])) (fun A' n' c' => .returned (.tuple #[.slice A' n' c', .int .i64 0])) R) := by
  obtain ⟨a0, cs⟩ := cs
  have H := Lib.hid h.nat_len
  have HLn := Lib.hid hl
  go_enter Try.func21, Try.ntmps21
  go_wp2_with (go_at_call 45; refine cs.mono ?_; rintro e w' ⟨rfl, rfl⟩)
  go_loopw [6, 7, 21] (fun v p i wr => ∃ (k pos : Nat) (ls : List (List Bool)), k ≤ n ∧ i = .int .i64 k ∧ p = .int .i64 pos ∧ pos ≤ 256 ∧ ls.length = k ∧ OwnR wr w.heap.size 24 v (ls.map vb) ∧ Below w.heap.size w wr ∧ Hid (alF (ns.drop k) ls pos = R)) (fun _ _ i _ => n - (intOf i).toNat)
  case atStart => exact ⟨0, 0, [], by omega, rfl, rfl, by omega, rfl, OwnR.nil _ _ _, Below.refl _ _, hR⟩
  case round =>
    obtain ⟨k, pos, ls, hk, rfl, rfl, hpos, hlk, hown, hbel, hst⟩ := hrel
    by_cases hlt : k < n
    · obtain ⟨ad, m, rfl, hb, hx, hc0⟩ := h.nat_at hlt
      have hm8 : m ≤ 8 := HLn.out m (mem_at hx)
      have hc : wr.cell? (ad.add k) = some (.int .i64 (m : Int)) := (hbel.cell (by rw [block_of_add]; exact hb)).trans hc0
      have hst2 := hst.out
      rw [drop_next hx, alF] at hst2
      obtain ⟨e, he⟩ : ∃ e, e + m = 8 := ⟨8 - m, by omega⟩
      rw [show 8 - m = e from by omega] at hst2
      have i8 : (8 : Int) - (m : Int) = (e : Int) := by omega
      obtain ⟨P, hP⟩ : ∃ P, 2 ^ e = P := ⟨_, rfl⟩
      have hP1 : 1 ≤ P := by rw [← hP]; exact Nat.pow_pos (by omega)
      have hP2 : P ≤ 256 := by rw [← hP]; exact Nat.pow_le_pow_right (n := 2) (by omega) (show e ≤ 8 by omega)
      have hPi : (2 : Int) ^ e = (P : Int) := by rw [← hP]; exact (Int.natCast_pow 2 e).symm
      rw [hP] at hst2
      obtain ⟨x0, hx0⟩ : ∃ x0, xNext pos P = x0 := ⟨_, rfl⟩
      rw [hx0] at hst2
      have hx0b : x0 ≤ 511 := by rw [← hx0]; unfold xNext; exact Nat.le_trans (Nat.div_le_self _ _) (by omega)
      obtain ⟨u, hu⟩ : ∃ u, u + 1 = pos + P := ⟨pos + P - 1, by omega⟩
      have iu : (pos : Int) + (P : Int) - 1 = (u : Int) := by omega
      have hq : (u : Int) / (P : Int) = (x0 : Int) := by rw [← hx0]; unfold xNext; rw [show pos + P - 1 = u from by omega]; exact (Int.natCast_ediv u P).symm
      obtain ⟨b, hbx⟩ : ∃ b, x0 * P = b := ⟨_, rfl⟩
      rw [hbx] at hst2
      have hbb : b ≤ 511 := by rw [← hbx, ← hx0]; unfold xNext; exact Nat.le_trans (Nat.div_mul_le_self _ _) (by omega)
      have hmul : (x0 : Int) * (P : Int) = (b : Int) := by rw [← hbx]; exact (Int.natCast_mul x0 P).symm
      have hq2 : (b : Int) / (P : Int) = (x0 : Int) := by rw [← hbx, Int.natCast_mul]; exact Int.mul_ediv_cancel _ (by omega)
      obtain ⟨d, hd⟩ : ∃ d, b + P = d := ⟨_, rfl⟩
      rw [hd] at hst2
      have id : (b : Int) + (P : Int) = (d : Int) := by omega
      have hPz : ((P : Int) == 0) = false := by simp; omega
      have hPz2 : ¬ (P : Int) = 0 := by omega
      clear hst hx hc0 he hP hx0 hu hbx hd
      by_cases hbig : 256 < d
      · rw [if_pos hbig] at hst2
        subst hst2
        have ib : (256 : Int) < (d : Int) := by omega
        go_wp2
        go_ret2
        exact ⟨hbel, rfl⟩
      · rw [if_neg hbig] at hst2
        have HST := Lib.hid hst2
        have ib : ¬ (256 : Int) < (d : Int) := by omega
        have cd := kraft_Digits x0 m wr (by omega) (by omega)
        have hlv := Lib.hid (digitsL_len x0 m)
        have hnew : Hid (ls.map vb ++ [vb (digitsL x0 m)] = (ls ++ [digitsL x0 m]).map vb) := by unfold Hid; simp
        clear hst2
        go_wp2_with (first
          | (go_at_call 46; refine cd.mono ?_; clear cd; rintro e1 w1 ⟨A1, n1, c1, rfl, ho1, hb1⟩; have hown1 := hown.below hb1; have hlt0 : ∀ q, Value.ownBlock _ = some q → q < wr.heap.size := (by obtain ⟨vs0, hv0, _⟩ := hown; exact fun q hq => (Own.lt hv0 q hq).2); obtain ⟨vs, hv, hrw⟩ := hown1; have hvl : vs.length = ls.length := (by rw [hrw.1, List.length_map]); have hbel1 := hbel.trans (hb1.mono hbel.size); have hn1 : n1 ≤ maxLen := (by have := ho1.reads.bool_len; have := hlv.out; unfold maxLen; omega))
          | (at_builtin; refine app1 el_rows rfl _ _ rfl rfl hv _ _ rfl rfl (by unfold maxLen; omega) (by omega) hbel1.size ?_; intro v2 w2 ho2 hb2 hg2 hat2; have hpush := rows_push hrw ho1.reads hn1 (fun ad ha hq => by have h1 := ho1.beyond ad ha; have h2 := hlt0 _ hq; omega) ho1.within ho2 hg2 hat2))
        rw [hnew.out] at hpush
        go_roundw
        case rel => exact ⟨k + 1, d, ls ++ [digitsL x0 m], by omega, by go_num, by go_num, by omega, by simp [hlk], hpush, hbel1.trans hb2, HST⟩
        case measure => simp [intOf]; omega
    · obtain rfl : k = n := by omega
      have hst2 := hst.out
      rw [List.drop_of_length_le (Nat.le_of_eq H.out), alF] at hst2
      subst hst2
      obtain ⟨A2, c2, e⟩ := hown.form
      rw [List.length_map, hlk] at e
      subst e
      go_wp2
      go_ret2
      exact ⟨hbel, A2, k, c2, rfl, hown, hn⟩
end Go.Proofs.Ytfhpgiidcggobaa

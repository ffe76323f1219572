/-
  slices.DeleteFunc where what is struck stands behind what stays.
-/
import Derived.Test.YthbmnaonnebnhaaProg
import Derived.Test.YthbmnaonnebnhaaIdx
import Derived.Test.YthbmnaonnebnhaaStore
import Derived.Lib.SliceRun
set_option linter.unusedVariables false
namespace Go.Proofs.Ythbmnaonnebnhaa
open Go.RowKit

set_option maxHeartbeats 400000 in
theorem idx_dbl (cp : Value) (A : Option Addr) (n c : Nat) (vs : List Value) (p : Nat → Bool) (r : Int) (w : World) (h : Reads w w.heap.size A n vs) (hn : n ≤ maxLen)
    (hp : ∀ k u m, vs[k]? = some u → Calls Try.prog 53 #[u, cp] (w.drewN m) (RetQ (w.drewN m) (.bool (p k)))) (hr : Hid (idxOf p n = r)) :
    Calls Try.prog 71 #[.slice A n c, .func (.func 53) #[] #[cp]] w (RetQ w (.int .i64 r)) := by
  unfold maxLen at hn
  have HP := Lib.hid hp
  clear hp
  go_enter Try.func71, Try.ntmps71
  go_wp2
  go_loopw [8] (fun i wr => ∃ k m : Nat, k ≤ n ∧ i = .int .i64 k ∧ wr = w.drewN m ∧ Hid (∀ j, j < k → p j = false)) (fun i _ => n - (intOf i).toNat)
  case atStart => exact ⟨0, 0, by omega, rfl, rfl, fun j hj => absurd hj (by omega)⟩
  case round =>
    obtain ⟨k, m, hk, rfl, rfl, hall⟩ := hrel
    by_cases hlt : k < n
    · obtain ⟨ad, u, rfl, hb, hx, hc⟩ := h.at_ hlt
      have cc := HP.out k u m hx
      cases hq : p k
      · rw [hq] at cc
        have HA : Hid (∀ j, j < k + 1 → p j = false) := fun j hj => by
          rcases Nat.lt_or_ge j k with h1 | h1
          · exact hall.out j h1
          · obtain rfl : j = k := by omega
            exact hq
        clear hx hq
        go_wp2_with (go_at_call 53; refine cc.mono ?_; rintro e w' ⟨rfl, m2, rfl⟩)
        go_roundw
        case rel => exact ⟨k + 1, m + m2, by omega, by go_num, rfl, HA⟩
        case measure => simp [intOf]; omega
      · rw [hq] at cc
        have HI := Lib.hid (idxOf_hit hlt hq hall.out)
        clear hx hq
        go_wp2_with (go_at_call 53; refine cc.mono ?_; rintro e w' ⟨rfl, m2, rfl⟩)
        go_ret
        exact ⟨ret_i (by rw [← hr.out, HI.out]), m + m2, rfl⟩
    · obtain rfl : k = n := by omega
      have HI := Lib.hid (idxOf_none hall.out)
      go_wp2
      go_ret
      exact ⟨ret_i (by rw [← hr.out, HI.out]), m, rfl⟩

theorem dbl_pred (B n x : Nat) (w : World) (hb : w.cell? ⟨B, 0, none⟩ = some (.int .i64 (n : Int))) :
    Calls Try.prog 53 #[.int .i64 (x : Int), .pointer (some ⟨B, 0, none⟩)] w (Ret w (.bool (decide (n ≤ x)))) := by
  by_cases h : n ≤ x
  · have h1 : decide ((n : Int) ≤ (x : Int)) = true := by simp; omega
    rw [decide_eq_true h]
    go_enter Try.func53, Try.ntmps53
    go_wp2
    go_ret
    exact ⟨rfl, rfl⟩
  · have h1 : decide ((n : Int) ≤ (x : Int)) = false := by simp; omega
    rw [decide_eq_false h]
    go_enter Try.func53, Try.ntmps53
    go_wp2
    go_ret
    exact ⟨rfl, rfl⟩
end Go.Proofs.Ythbmnaonnebnhaa

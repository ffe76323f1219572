import Derived.Test.YtpbffbhebdcpbaaProg
import Derived.Test.YtpbffbhebdcpbaaIdx
set_option linter.unusedVariables false
namespace Go.Proofs.Ytpbffbhebdcpbaa
open Go.RowKit

set_option maxHeartbeats 400000 in
theorem idx_fld (A : Option Addr) (n c : Nat) (vs : List Value) (p : Nat → Bool) (r : Int) (w : World) (h : Reads w w.heap.size A n vs) (hn : n ≤ maxLen)
    (hp : ∀ k u m, vs[k]? = some u → Calls Try.prog 48 #[u] (w.drewN m) (RetQ (w.drewN m) (.bool (p k)))) (hr : Hid (idxOf p n = r)) :
    Calls Try.prog 59 #[.slice A n c, .func (.func 48) #[] #[]] w (RetQ w (.int .i64 r)) := by
  unfold maxLen at hn
  have HP := Lib.hid hp
  clear hp
  go_enter Try.func59, Try.ntmps59
  go_wp2
  go_loopw [8] (fun i wr => ∃ k m : Nat, k ≤ n ∧ i = .int .i64 k ∧ wr = w.drewN m ∧ Hid (∀ j, j < k → p j = false)) (fun i _ => n - (intOf i).toNat)
  case atStart => exact ⟨0, 0, by omega, rfl, rfl, fun j hj => absurd hj (by omega)⟩
  case round =>
    obtain ⟨k, m, hk, rfl, rfl, hall⟩ := hrel
    by_cases hlt : k < n
    · obtain ⟨ad, u, rfl, hb, hx, hc⟩ := h.at_ hlt
      have cc := HP.out k u m hx
      cases hq : p k
      · rw [hq] at cc
        have HA : Hid (∀ j, j < k + 1 → p j = false) := fun j hj => by
          rcases Nat.lt_or_ge j k with h1 | h1
          · exact hall.out j h1
          · obtain rfl : j = k := by omega
            exact hq
        clear hx hq
        go_wp2_with (go_at_call 48; refine cc.mono ?_; rintro e w' ⟨rfl, m2, rfl⟩)
        go_roundw
        case rel => exact ⟨k + 1, m + m2, by omega, by go_num, rfl, HA⟩
        case measure => simp [intOf]; omega
      · rw [hq] at cc
        have HI := Lib.hid (idxOf_hit hlt hq hall.out)
        clear hx hq
        go_wp2_with (go_at_call 48; refine cc.mono ?_; rintro e w' ⟨rfl, m2, rfl⟩)
        go_ret
        exact ⟨ret_i (by rw [← hr.out, HI.out]), m + m2, rfl⟩
    · obtain rfl : k = n := by omega
      have HI := Lib.hid (idxOf_none hall.out)
      go_wp2
      go_ret
      exact ⟨ret_i (by rw [← hr.out, HI.out]), m, rfl⟩

set_option maxHeartbeats 400000 in
theorem contains_fld (A : Option Addr) (n c : Nat) (vs : List Value) (p : Nat → Bool) (b : Bool) (w : World) (h : Reads w w.heap.size A n vs) (hn : n ≤ maxLen)
    (hp : ∀ k u m, vs[k]? = some u → Calls Try.prog 48 #[u] (w.drewN m) (RetQ (w.drewN m) (.bool (p k)))) (hr : Hid (anyTo p n = b)) :
    Calls Try.prog 47 #[.slice A n c, .func (.func 48) #[] #[]] w (RetQ w (.bool b)) := by
  have cc := idx_fld  A n c vs p (idxOf p n) w h hn hp rfl
  have HB : Hid (decide (0 ≤ idxOf p n) = b) := by unfold Hid; rw [← hr.out, anyTo_idx]
  generalize idxOf p n = z at *
  clear hp
  go_enter Try.func47, Try.ntmps47
  go_wp2_with (go_at_call 59; refine cc.mono ?_; rintro e w' ⟨rfl, m2, rfl⟩)
  go_ret
  exact ⟨ret_b (by rw [← HB.out]), m2, rfl⟩

end Go.Proofs.Ytpbffbhebdcpbaa

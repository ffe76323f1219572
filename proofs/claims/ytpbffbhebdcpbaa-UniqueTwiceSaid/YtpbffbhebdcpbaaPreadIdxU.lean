/-
  slices.IndexFunc with unique.find's own closure.
-/
import Derived.Test.YtpbffbhebdcpbaaPreft
import Derived.Test.YtpbffbhebdcpbaaIdx
set_option linter.unusedVariables false
namespace Go.Proofs.Ytpbffbhebdcpbaa
open Go.RowKit

set_option maxHeartbeats 400000 in
theorem find_1' (A : Option Addr) (n c : Nat) (b : Bool) (w : World) (hb : Hid (decide (n = 0) = b)) : Calls Try.prog 43 #[.slice A n c] w (Ret w (.bool b)) := by
  by_cases h0 : n = 0
  · obtain rfl : b = true := by rw [← hb.out]; simpa using h0
    subst h0
    go_enter Try.func43, Try.ntmps43
    go_wp2
    go_ret
    exact ⟨rfl, rfl⟩
  · obtain rfl : b = false := by rw [← hb.out]; simpa using h0
    have h1 : ((n : Int) == 0) = false := by simp; omega
    go_enter Try.func43, Try.ntmps43
    go_wp2
    go_ret
    exact ⟨rfl, rfl⟩
set_option maxHeartbeats 400000 in
theorem idx_findU (A : Option Addr) (n c : Nat) (vs : List Value) (p : Nat → Bool) (r : Int) (w : World) (h : Reads w w.heap.size A n vs) (hn : n ≤ maxLen)
    (hp : ∀ k u m, vs[k]? = some u → Calls Try.prog 43 #[u] (w.drewN m) (RetQ (w.drewN m) (.bool (p k)))) (hr : Hid (idxOf p n = r)) :
    Calls Try.prog 42 #[.slice A n c, .func (.func 43) #[] #[]] w (RetQ w (.int .i64 r)) := by
  unfold maxLen at hn
  have HP := Lib.hid hp
  clear hp
  go_enter Try.func42, Try.ntmps42
  go_wp2
  go_loopw [8] (fun i wr => ∃ k m : Nat, k ≤ n ∧ i = .int .i64 k ∧ wr = w.drewN m ∧ Hid (∀ j, j < k → p j = false)) (fun i _ => n - (intOf i).toNat)
  case atStart => exact ⟨0, 0, by omega, rfl, rfl, fun j hj => absurd hj (by omega)⟩
  case round =>
    obtain ⟨k, m, hk, rfl, rfl, hall⟩ := hrel
    by_cases hlt : k < n
    · obtain ⟨ad, u, rfl, hb, hx, hc⟩ := h.at_ hlt
      have cc := HP.out k u m hx
      cases hq : p k
      · rw [hq] at cc
        have HA : Hid (∀ j, j < k + 1 → p j = false) := fun j hj => by
          rcases Nat.lt_or_ge j k with h1 | h1
          · exact hall.out j h1
          · obtain rfl : j = k := by omega
            exact hq
        clear hx hq
        go_wp2_with (go_at_call 43; refine cc.mono ?_; rintro e w' ⟨rfl, m2, rfl⟩)
        go_roundw
        case rel => exact ⟨k + 1, m + m2, by omega, by go_num, rfl, HA⟩
        case measure => simp [intOf]; omega
      · rw [hq] at cc
        have HI := Lib.hid (idxOf_hit hlt hq hall.out)
        clear hx hq
        go_wp2_with (go_at_call 43; refine cc.mono ?_; rintro e w' ⟨rfl, m2, rfl⟩)
        go_ret
        exact ⟨ret_i (by rw [← hr.out, HI.out]), m + m2, rfl⟩
    · obtain rfl : k = n := by omega
      have HI := Lib.hid (idxOf_none hall.out)
      go_wp2
      go_ret
      exact ⟨ret_i (by rw [← hr.out, HI.out]), m, rfl⟩
theorem idx_find1 (A : Option Addr) (n c : Nat) (C : List (List Bool)) (r : Int) (w : World) (h : Reads2c w w.heap.size A n C) (hn : n ≤ maxLen) (hr : Hid (idxOf (fun k => decide ((C.getD k []).length = 0)) n = r)) :
    Calls Try.prog 42 #[.slice A n c, .func (.func 43) #[] #[]] w (RetQ w (.int .i64 r)) := by
  obtain ⟨vs, hv, hl, he⟩ := h
  refine idx_findU A n c vs _ r w hv hn ?_ hr
  intro k u m hu
  have hk : k < C.length := by rw [← hl]; exact (List.getElem?_eq_some_iff.1 hu).1
  obtain ⟨A', n', c', e, h2, _⟩ := he k _ (List.getElem?_eq_getElem hk)
  rw [hu] at e
  injection e with e
  subst e
  refine (find_1' A' n' c' _ (w.drewN m) rfl).mono fun e w' ⟨h1, h2'⟩ => ⟨?_, 0, by rw [← h2']; rfl⟩
  rw [h1]
  refine ret_b ?_
  have : (C.getD k []).length = n' := by simp only [List.getD, List.getElem?_eq_getElem hk, Option.getD_some]; exact h2.bool_len
  rw [this]
end Go.Proofs.Ytpbffbhebdcpbaa

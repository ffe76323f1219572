import Derived.Test.YtpbffbhebdcpbaaFieldc
import Derived.OpenShut
set_option linter.unusedVariables false
namespace Go.Proofs.Ytpbffbhebdcpbaa
open Go.RowKit

theorem inv_ok {a : Nat} (ha : a < 16) (h0 : a ≠ 0) : gm a (gp a 14) = 1 ∧ 1 ≤ gp a 14 ∧ gp a 14 < 16 ∧ ∀ y : Nat, 1 ≤ y → y < gp a 14 → gm a y ≠ 1 := by
  obtain ⟨h1, h2, h3⟩ := inv_fin ⟨a, ha⟩ h0
  have h4 := gp_lt ha 14
  exact ⟨h1, h2, h4, fun y hy1 hy2 => h3 ⟨y, by omega⟩ hy1 hy2⟩
set_option maxHeartbeats 600000 in
theorem ref_Inv (a : Nat) (w : World) (ha : a < 16) (h0 : a ≠ 0) :
    Calls Try.prog 56 #[.int .i64 (a : Int)] w (Ret w (.int .i64 (gp a 14 : Int))) := by
  obtain ⟨h1, h2, h3, h4⟩ := inv_ok ha h0
  have H1 := Lib.hid h1
  have H4 := Lib.hid h4
  clear h1 h4 h0
  generalize gp a 14 = v at *
  go_enter Try.func56, Try.ntmps56
  go_wp2
  go_loop [3] (fun xv => ∃ y : Nat, 1 ≤ y ∧ y ≤ v ∧ xv = .int .i64 y) (fun xv => v - (intOf xv).toNat)
  case atStart => exact ⟨1, by omega, h2, rfl⟩
  case round =>
    obtain ⟨y, hy1, hy2, rfl⟩ := hrel
    have c1 := ref_Mul a y w ha (by omega)
    by_cases hlt : y < v
    · have hne := H4.out y hy1 hlt
      have t1 : ((gm a y : Int) != 1) = true := by simp; omega
      have hb := gm_lt ha (show y < 16 by omega)
      clear hne
      generalize gm a y = q at *
      go_wp2_with (go_at_call 54; refine c1.mono ?_; rintro e w' ⟨rfl, rfl⟩)
      go_round
      case rel => exact ⟨y + 1, by omega, by omega, by go_num⟩
      case measure => simp [intOf]; omega
    · obtain rfl : y = v := by omega
      rw [H1.out] at c1
      go_wp2_with (go_at_call 54; refine c1.mono ?_; rintro e w' ⟨rfl, rfl⟩)
      go_ret
      exact ⟨rfl, rfl⟩
/-! ### powers -/
set_option maxHeartbeats 600000 in
theorem ref_Pow (a k : Nat) (w : World) (ha : a < 16) (hk : k < 9223372036854775808) :
    Calls Try.prog 61 #[.int .i64 (a : Int), .int .i64 (k : Int)] w (Ret w (.int .i64 (gp a k : Int))) := by
  by_cases h0 : a = 0 ∧ 0 < k
  · obtain ⟨rfl, h1⟩ := h0
    have HZ := Lib.hid (gp_zero k h1)
    have h2 : (0 : Int) < (k : Int) := by omega
    go_enter Try.func61, Try.ntmps61
    go_wp2
    go_ret
    exact ⟨ret_i (by rw [HZ.out]; rfl), rfl⟩
  · by_cases h1 : a = 0
    · obtain rfl : k = 0 := by omega
      subst h1
      go_enter Try.func61, Try.ntmps61
      go_wp2
      go_loop [5, 6] (fun xv i => i = .int .i64 0 ∧ xv = .int .i64 1) (fun _ i => 0)
      case atStart => exact ⟨rfl, rfl⟩
      case round =>
        obtain ⟨rfl, rfl⟩ := hrel
        go_wp2
        go_ret
        exact ⟨rfl, rfl⟩
    · have HZ := Lib.hid (gp_mod ha h1 k)
      have e1 : (k : Int) % 15 = ((k % 15 : Nat) : Int) := by omega
      have hm : k % 15 < 15 := by omega
      have hd1 : ((a : Int) == 0) = false := by simp; omega
      clear h0 h1
      generalize k % 15 = m at *
      go_enter Try.func61, Try.ntmps61
      go_wp2
      go_loop [5, 6] (fun xv i => ∃ j : Nat, j ≤ m ∧ i = .int .i64 j ∧ xv = .int .i64 (gp a j : Int)) (fun _ i => m - (intOf i).toNat)
      case atStart => exact ⟨0, by omega, rfl, rfl⟩
      case round =>
        obtain ⟨j, hj, rfl, rfl⟩ := hrel
        by_cases hlt : j < m
        · have c1 := ref_Mul (gp a j) a w (gp_lt ha j) ha
          have HN : Hid (gp a (j + 1) = gm (gp a j) a) := rfl
          have hb := gm_lt (gp_lt ha j) ha
          generalize gm (gp a j) a = q at *
          generalize gp a j = y at *
          go_wp2_with (go_at_call 54; refine c1.mono ?_; rintro e w' ⟨rfl, rfl⟩)
          go_round
          case rel => exact ⟨j + 1, by omega, by go_num, by rw [HN.out]⟩
          case measure => simp [intOf]; omega
        · obtain rfl : j = m := by omega
          go_wp2
          go_ret
          exact ⟨ret_i (by rw [HZ.out]), rfl⟩
end Go.Proofs.Ytpbffbhebdcpbaa

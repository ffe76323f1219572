import Derived.Test.YthbmnaonnebnhaaFieldc
import Derived.OpenShut
set_option linter.unusedVariables false
namespace Go.Proofs.Ythbmnaonnebnhaa
open Go.RowKit

theorem inv_ok {a : Nat} (ha : a < 16) (h0 : a ≠ 0) : gm a (gp a 14) = 1 ∧ 1 ≤ gp a 14 ∧ gp a 14 < 16 ∧ ∀ y : Nat, 1 ≤ y → y < gp a 14 → gm a y ≠ 1 := by
  obtain ⟨h1, h2, h3⟩ := inv_fin ⟨a, ha⟩ h0
  have h4 := gp_lt ha 14
  exact ⟨h1, h2, h4, fun y hy1 hy2 => h3 ⟨y, by omega⟩ hy1 hy2⟩
set_option maxHeartbeats 600000 in
theorem ref_Inv (a : Nat) (w : World) (ha : a < 16) (h0 : a ≠ 0) :
    Calls Try.prog 18 #[.int .i64 (a : Int)] w (Ret w (.int .i64 (gp a 14 : Int))) := by
  obtain ⟨h1, h2, h3, h4⟩ := inv_ok ha h0
  have H1 := Lib.hid h1
  have H4 := Lib.hid h4
  clear h1 h4 h0
  generalize gp a 14 = v at *
  go_enter Try.func18, Try.ntmps18
  go_wp2
  go_loop [3] (fun xv => ∃ y : Nat, 1 ≤ y ∧ y ≤ v ∧ xv = .int .i64 y) (fun xv => v - (intOf xv).toNat)
  case atStart => exact ⟨1, by omega, h2, rfl⟩
  case round =>
    obtain ⟨y, hy1, hy2, rfl⟩ := hrel
    have c1 := ref_Mul a y w ha (by omega)
    by_cases hlt : y < v
    · have hne := H4.out y hy1 hlt
      have t1 : ((gm a y : Int) != 1) = true := by simp; omega
      have hb := gm_lt ha (show y < 16 by omega)
      clear hne
      generalize gm a y = q at *
      go_wp2_with (go_at_call 16; refine c1.mono ?_; rintro e w' ⟨rfl, rfl⟩)
      go_round
      case rel => exact ⟨y + 1, by omega, by omega, by go_num⟩
      case measure => simp [intOf]; omega
    · obtain rfl : y = v := by omega
      rw [H1.out] at c1
      go_wp2_with (go_at_call 16; refine c1.mono ?_; rintro e w' ⟨rfl, rfl⟩)
      go_ret
      exact ⟨rfl, rfl⟩
set_option maxHeartbeats 600000 in
theorem field_Inv_err (a z : Int) (w : World) (hz : Hid (fldErr [a] = z)) (h0 : (z != 0) = true) :
    Calls Try.prog 17 #[.int .i64 a] w (RetB w (.tuple #[.int .i64 0, .int .i64 z])) := by
  have c1 := field_Check1 a z w hz
  go_enter Try.func17, Try.ntmps17
  go_wp2_with (go_at_call 40; refine c1.mono ?_; rintro e w' ⟨rfl, m, rfl⟩)
  go_ret2
  exact ⟨rfl, below_drewN ((Below.refl _ _).alloc (Nat.le_refl _) _) _⟩
set_option maxHeartbeats 600000 in
theorem field_Inv_zero (w : World) :
    Calls Try.prog 17 #[.int .i64 0] w (RetB w (.tuple #[.int .i64 0, .int .i64 5])) := by
  have c1 := field_Check1 0 0 w rfl
  go_enter Try.func17, Try.ntmps17
  go_wp2_with (go_at_call 40; refine c1.mono ?_; rintro e w' ⟨rfl, m, rfl⟩)
  go_ret2
  exact ⟨rfl, below_drewN ((Below.refl _ _).alloc (Nat.le_refl _) _) _⟩
set_option maxHeartbeats 600000 in
theorem field_Inv (a : Nat) (w : World) (ha : a < 16) (h0 : ((a : Int) == 0) = false) :
    Calls Try.prog 17 #[.int .i64 (a : Int)] w (RetB w (.tuple #[.int .i64 (gp a 14 : Int), .int .i64 0])) := by
  have c1 := field_Check1 a 0 w (fldErr_of_nats (l := [a]) (by simp; omega))
  have c2 : ∀ w, Calls Try.prog 43 #[.int .i64 (a : Int), .int .i64 14] w (Ret w (.int .i64 (gp a 14 : Int))) := fun w => field_Power a 14 w ha (by omega)
  generalize gp a 14 = q at *
  go_enter Try.func17, Try.ntmps17
  go_wp2_with (first | (go_at_call 40; refine c1.mono ?_; rintro e w' ⟨rfl, m, rfl⟩) | (go_at_call 43; refine (c2 _).mono ?_; rintro e w' ⟨rfl, rfl⟩))
  go_ret2
  exact ⟨rfl, below_drewN ((Below.refl _ _).alloc (Nat.le_refl _) _) _⟩
set_option maxHeartbeats 600000 in
theorem FieldInverts_walk (a : Int) (w : World) (_ : (Lit.int .i64 a).wf = true) :
    Calls Try.prog 4 #[.int .i64 a] w (LawTrue w) := by
  by_cases h0 : fldErr [a] = 0
  · have h1 := fldErr_ok h0 a (by simp)
    have c2 := fun w => ref_FieldCheck1 a 0 w h0
    obtain ⟨x, rfl⟩ := Int.eq_ofNat_of_zero_le h1.1
    clear h0
    by_cases hx : x = 0
    · subst hx
      have c1 := field_Inv_zero w
      go_enter Try.func4, Try.ntmps4
      go_wp2_with (first | (go_at_call 17; refine c1.mono ?_; rintro e w1 ⟨rfl, hb1⟩) | (go_at_call 15; refine (c2 _).mono ?_; rintro e w' ⟨rfl, rfl⟩))
      go_ret
      exact ⟨rfl, hb1.alloc hb1.size _⟩
    · have ht : ((x : Int) == 0) = false := by simp; omega
      have c1 := field_Inv x w (by omega) ht
      have c3 := fun w => ref_Inv x w (by omega) hx
      clear hx
      generalize gp x 14 = q at *
      go_enter Try.func4, Try.ntmps4
      go_wp2_with (first | (go_at_call 17; refine c1.mono ?_; rintro e w1 ⟨rfl, hb1⟩) | (go_at_call 15; refine (c2 _).mono ?_; rintro e w' ⟨rfl, rfl⟩) | (go_at_call 18; refine (c3 _).mono ?_; rintro e w' ⟨rfl, rfl⟩))
      go_ret
      exact ⟨rfl, hb1.alloc hb1.size _⟩
  · have hz : (fldErr [a] != 0) = true := by simpa using h0
    have hz2 : (fldErr [a] == 0) = false := by simpa using h0
    have c1 := field_Inv_err a (fldErr [a]) w rfl hz
    have c2 := fun w => ref_FieldCheck1 a (fldErr [a]) w rfl
    clear h0
    generalize fldErr [a] = z at *
    go_enter Try.func4, Try.ntmps4
    go_wp2_with (first | (go_at_call 17; refine c1.mono ?_; rintro e w1 ⟨rfl, hb1⟩) | (go_at_call 15; refine (c2 _).mono ?_; rintro e w' ⟨rfl, rfl⟩))
    go_ret
    exact ⟨rfl, hb1.alloc hb1.size _⟩

/-! ### powers -/
set_option maxHeartbeats 600000 in
theorem ref_Pow (a k : Nat) (w : World) (ha : a < 16) (hk : k < 9223372036854775808) :
    Calls Try.prog 20 #[.int .i64 (a : Int), .int .i64 (k : Int)] w (Ret w (.int .i64 (gp a k : Int))) := by
  by_cases h0 : a = 0 ∧ 0 < k
  · obtain ⟨rfl, h1⟩ := h0
    have HZ := Lib.hid (gp_zero k h1)
    have h2 : (0 : Int) < (k : Int) := by omega
    go_enter Try.func20, Try.ntmps20
    go_wp2
    go_ret
    exact ⟨ret_i (by rw [HZ.out]; rfl), rfl⟩
  · by_cases h1 : a = 0
    · obtain rfl : k = 0 := by omega
      subst h1
      go_enter Try.func20, Try.ntmps20
      go_wp2
      go_loop [5, 6] (fun xv i => i = .int .i64 0 ∧ xv = .int .i64 1) (fun _ i => 0)
      case atStart => exact ⟨rfl, rfl⟩
      case round =>
        obtain ⟨rfl, rfl⟩ := hrel
        go_wp2
        go_ret
        exact ⟨rfl, rfl⟩
    · have HZ := Lib.hid (gp_mod ha h1 k)
      have e1 : (k : Int) % 15 = ((k % 15 : Nat) : Int) := by omega
      have hm : k % 15 < 15 := by omega
      have hd1 : ((a : Int) == 0) = false := by simp; omega
      clear h0 h1
      generalize k % 15 = m at *
      go_enter Try.func20, Try.ntmps20
      go_wp2
      go_loop [5, 6] (fun xv i => ∃ j : Nat, j ≤ m ∧ i = .int .i64 j ∧ xv = .int .i64 (gp a j : Int)) (fun _ i => m - (intOf i).toNat)
      case atStart => exact ⟨0, by omega, rfl, rfl⟩
      case round =>
        obtain ⟨j, hj, rfl, rfl⟩ := hrel
        by_cases hlt : j < m
        · have c1 := ref_Mul (gp a j) a w (gp_lt ha j) ha
          have HN : Hid (gp a (j + 1) = gm (gp a j) a) := rfl
          have hb := gm_lt (gp_lt ha j) ha
          generalize gm (gp a j) a = q at *
          generalize gp a j = y at *
          go_wp2_with (go_at_call 16; refine c1.mono ?_; rintro e w' ⟨rfl, rfl⟩)
          go_round
          case rel => exact ⟨j + 1, by omega, by go_num, by rw [HN.out]⟩
          case measure => simp [intOf]; omega
        · obtain rfl : j = m := by omega
          go_wp2
          go_ret
          exact ⟨ret_i (by rw [HZ.out]), rfl⟩
set_option maxHeartbeats 600000 in
theorem field_Pow_err (a k z : Int) (w : World) (hz : Hid (fldErr [a] = z)) (h0 : (z != 0) = true) :
    Calls Try.prog 19 #[.int .i64 a, .int .i64 k] w (RetB w (.tuple #[.int .i64 0, .int .i64 z])) := by
  have c1 := field_Check1 a z w hz
  go_enter Try.func19, Try.ntmps19
  go_wp2_with (go_at_call 40; refine c1.mono ?_; rintro e w' ⟨rfl, m, rfl⟩)
  go_ret2
  exact ⟨rfl, below_drewN ((Below.refl _ _).alloc (Nat.le_refl _) _) _⟩
set_option maxHeartbeats 600000 in
theorem field_Pow_neg (a k : Int) (w : World) (hz : Hid (fldErr [a] = 0)) (hk : k < 0) :
    Calls Try.prog 19 #[.int .i64 a, .int .i64 k] w (RetB w (.tuple #[.int .i64 0, .int .i64 4])) := by
  have c1 := field_Check1 a 0 w hz
  go_enter Try.func19, Try.ntmps19
  go_wp2_with (go_at_call 40; refine c1.mono ?_; rintro e w' ⟨rfl, m, rfl⟩)
  go_ret2
  exact ⟨rfl, below_drewN ((Below.refl _ _).alloc (Nat.le_refl _) _) _⟩
set_option maxHeartbeats 600000 in
theorem field_Pow (a k : Nat) (w : World) (ha : a < 16) (hk : k < 9223372036854775808) :
    Calls Try.prog 19 #[.int .i64 (a : Int), .int .i64 (k : Int)] w (RetB w (.tuple #[.int .i64 (gp a k : Int), .int .i64 0])) := by
  have c1 := field_Check1 a 0 w (fldErr_of_nats (l := [a]) (by simp; omega))
  have c2 := fun w => field_Power a k w ha hk
  have d1 : ¬ (k : Int) < 0 := by omega
  generalize gp a k = q at *
  go_enter Try.func19, Try.ntmps19
  go_wp2_with (first | (go_at_call 40; refine c1.mono ?_; rintro e w' ⟨rfl, m, rfl⟩) | (go_at_call 43; refine (c2 _).mono ?_; rintro e w' ⟨rfl, rfl⟩))
  go_ret2
  exact ⟨rfl, below_drewN ((Below.refl _ _).alloc (Nat.le_refl _) _) _⟩
set_option maxHeartbeats 600000 in
theorem FieldPows_walk (a k : Int) (w : World) (_ : (Lit.int .i64 a).wf = true) (hkw : (Lit.int .i64 k).wf = true) :
    Calls Try.prog 5 #[.int .i64 a, .int .i64 k] w (LawTrue w) := by
  by_cases h0 : fldErr [a] = 0
  · have h1 := fldErr_ok h0 a (by simp)
    have c2 := fun w => ref_FieldCheck1 a 0 w h0
    by_cases hk : k < 0
    · have c1 := field_Pow_neg a k w h0 hk
      clear h0
      go_enter Try.func5, Try.ntmps5
      go_wp2_with (first | (go_at_call 19; refine c1.mono ?_; rintro e w1 ⟨rfl, hb1⟩) | (go_at_call 15; refine (c2 _).mono ?_; rintro e w' ⟨rfl, rfl⟩))
      go_ret
      exact ⟨rfl, hb1.alloc hb1.size _⟩
    · have hk63 := bounds_i64 hkw
      obtain ⟨x, rfl⟩ := Int.eq_ofNat_of_zero_le h1.1
      obtain ⟨j, rfl⟩ := Int.eq_ofNat_of_zero_le (show 0 ≤ k by omega)
      have c1 := field_Pow x j w (by omega) (by omega)
      have c3 := fun w => ref_Pow x j w (by omega) (by omega)
      clear h0 hk63 hkw
      generalize gp x j = q at *
      go_enter Try.func5, Try.ntmps5
      go_wp2_with (first | (go_at_call 19; refine c1.mono ?_; rintro e w1 ⟨rfl, hb1⟩) | (go_at_call 15; refine (c2 _).mono ?_; rintro e w' ⟨rfl, rfl⟩) | (go_at_call 20; refine (c3 _).mono ?_; rintro e w' ⟨rfl, rfl⟩))
      go_ret
      exact ⟨rfl, hb1.alloc hb1.size _⟩
  · have hz : (fldErr [a] != 0) = true := by simpa using h0
    have hz2 : (fldErr [a] == 0) = false := by simpa using h0
    have c1 := field_Pow_err a k (fldErr [a]) w rfl hz
    have c2 := fun w => ref_FieldCheck1 a (fldErr [a]) w rfl
    clear h0
    generalize fldErr [a] = z at *
    go_enter Try.func5, Try.ntmps5
    go_wp2_with (first | (go_at_call 19; refine c1.mono ?_; rintro e w1 ⟨rfl, hb1⟩) | (go_at_call 15; refine (c2 _).mono ?_; rintro e w' ⟨rfl, rfl⟩))
    go_ret
    exact ⟨rfl, hb1.alloc hb1.size _⟩
end Go.Proofs.Ythbmnaonnebnhaa

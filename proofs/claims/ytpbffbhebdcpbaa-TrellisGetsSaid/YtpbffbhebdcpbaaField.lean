import Derived.Test.YtpbffbhebdcpbaaGf
import Derived.Test.YtpbffbhebdcpbaaBit64
set_option linter.unusedVariables false
namespace Go.Proofs.Ytpbffbhebdcpbaa
open Go.RowKit

theorem and_one_test (b : Nat) (hb : b < 9223372036854775808) : (bits .and .i64 (b : Int) 1 == 1) = (b % 2 == 1) := by
  rw [show (1 : Int) = ((1 : Nat) : Int) from rfl, i64_and_nat b 1 hb (by omega), Nat.and_one_is_mod]
  rw [Bool.eq_iff_iff]; simp; omega
theorem tstep_next (f p a b : Nat) (h : b ≠ 0) : tstep (f + 1) p a b = tstep f (if b % 2 = 1 then p ^^^ a else p) (if 15 < 2 * a then (2 * a) ^^^ 19 else 2 * a) (b / 2) := by rw [tstep, if_neg h]
theorem tstep_end (f p a : Nat) : tstep f p a 0 = p := by cases f <;> simp [tstep]
theorem x19_lt : ∀ a : Fin 16, 15 < 2 * a.val → (2 * a.val) ^^^ 19 < 16 := by decide

set_option maxHeartbeats 600000 in
theorem field_Times (a b : Nat) (w : World) (ha : a < 16) (hb : b < 16) :
    Calls Try.prog 51 #[.int .i64 (a : Int), .int .i64 (b : Int)] w (Ret w (.int .i64 (gm a b : Int))) := by
  go_enter Try.func51, Try.ntmps51
  go_wp2
  go_loop [0, 1, 5] (fun av bv pv => ∃ f x y p : Nat, y < 2 ^ f ∧ x < 16 ∧ y < 16 ∧ p < 16 ∧ av = .int .i64 x ∧ bv = .int .i64 y ∧ pv = .int .i64 p ∧ Hid (tstep f p x y = gm a b)) (fun _ bv _ => (intOf bv).toNat)
  case atStart => exact ⟨4, a, b, 0, by omega, ha, hb, by omega, rfl, rfl, rfl, rfl⟩
  case round =>
    obtain ⟨f, x, y, p, hf, hx, hy, hp, rfl, rfl, rfl, hr⟩ := hrel
    by_cases hy0 : y = 0
    · subst hy0
      rw [tstep_end] at hr
      go_wp2
      go_ret
      exact ⟨ret_i (by rw [hr.out]), rfl⟩
    · obtain ⟨f, rfl⟩ : ∃ g, f = g + 1 := by
        cases f with
        | zero => omega
        | succ g => exact ⟨g, rfl⟩
      rw [tstep_next f p x y hy0] at hr
      have hf2 : y / 2 < 2 ^ f := by rw [Nat.pow_succ] at hf; omega
      have ht := and_one_test y (by omega)
      have hpos : (0 : Int) < (y : Int) := by omega
      have e1 : (y : Int) / 2 = ((y / 2 : Nat) : Int) := by omega
      have e2 := i64_xor_nat p x (by omega) (by omega)
      have e3 : bits .xor .i64 ((x : Int) * 2) 19 = (((2 * x) ^^^ 19 : Nat) : Int) := by
        have := i64_xor_nat (2 * x) 19 (by omega) (by omega)
        rw [← this]; congr 1; omega
      have hpx := xor_lt16 hp hx
      have hy2 : y / 2 < 16 := by omega
      have hy3 : y / 2 < y := by omega
      have HF := Lib.hid hf2
      clear hf hf2
      generalize hz : y / 2 = z at *
      clear hz
      by_cases hodd : y % 2 = 1
      · have t1 : (bits .and .i64 (y : Int) 1 == 1) = true := by rw [ht]; simpa using hodd
        rw [if_pos hodd] at hr
        clear ht hodd
        by_cases hbig : 15 < 2 * x
        · have hb2 : (15 : Int) < (x : Int) * 2 := by omega
          have h16 : (2 * x) ^^^ 19 < 16 := x19_lt ⟨x, hx⟩ hbig
          rw [if_pos hbig] at hr
          clear hbig
          generalize (2 * x) ^^^ 19 = x2 at *
          generalize p ^^^ x = p2 at *
          go_wp2
          go_round
          case rel => exact ⟨f, x2, z, p2, HF.out, h16, hy2, hpx, rfl, rfl, rfl, hr⟩
          case measure => simp [intOf]; omega
        · have hb2 : ¬ (15 : Int) < (x : Int) * 2 := by omega
          have h16 : 2 * x < 16 := by omega
          have e4 : (x : Int) * 2 = ((2 * x : Nat) : Int) := by omega
          rw [if_neg hbig] at hr
          clear hbig
          generalize p ^^^ x = p2 at *
          go_wp2
          go_round
          case rel => exact ⟨f, 2 * x, z, p2, HF.out, h16, hy2, hpx, by go_num, rfl, rfl, hr⟩
          case measure => simp [intOf]; omega
      · have t1 : (bits .and .i64 (y : Int) 1 == 1) = false := by rw [ht]; simpa using hodd
        rw [if_neg hodd] at hr
        clear ht hodd e2 hpx
        by_cases hbig : 15 < 2 * x
        · have hb2 : (15 : Int) < (x : Int) * 2 := by omega
          have h16 : (2 * x) ^^^ 19 < 16 := x19_lt ⟨x, hx⟩ hbig
          rw [if_pos hbig] at hr
          clear hbig
          generalize (2 * x) ^^^ 19 = x2 at *
          go_wp2
          go_round
          case rel => exact ⟨f, x2, z, p, HF.out, h16, hy2, hp, rfl, rfl, rfl, hr⟩
          case measure => simp [intOf]; omega
        · have hb2 : ¬ (15 : Int) < (x : Int) * 2 := by omega
          have h16 : 2 * x < 16 := by omega
          have e4 : (x : Int) * 2 = ((2 * x : Nat) : Int) := by omega
          rw [if_neg hbig] at hr
          clear hbig
          go_wp2
          go_round
          case rel => exact ⟨f, 2 * x, z, p, HF.out, h16, hy2, hp, by go_num, rfl, rfl, hr⟩
          case measure => simp [intOf]; omega

set_option maxHeartbeats 600000 in
theorem field_Power (a k : Nat) (w : World) (ha : a < 16) (hk : k < 9223372036854775808) :
    Calls Try.prog 52 #[.int .i64 (a : Int), .int .i64 (k : Int)] w (Ret w (.int .i64 (gp a k : Int))) := by
  go_enter Try.func52, Try.ntmps52
  go_wp2
  go_loop [0, 1, 5] (fun av kv xv => ∃ a2 k2 x : Nat, a2 < 16 ∧ k2 < 9223372036854775808 ∧ x < 16 ∧ av = .int .i64 a2 ∧ kv = .int .i64 k2 ∧ xv = .int .i64 x ∧ Hid (gm x (gp a2 k2) = gp a k)) (fun _ kv _ => (intOf kv).toNat)
  case atStart => exact ⟨a, k, 1, ha, hk, by omega, rfl, rfl, rfl, one_gm (gp_lt ha k)⟩
  case round =>
    obtain ⟨a2, k2, x, ha2, hk2, hx, rfl, rfl, rfl, hr⟩ := hrel
    by_cases hk0 : k2 = 0
    · subst hk0
      have HR : Hid (x = gp a k) := by unfold Hid; rw [← hr.out, gp, gm_one hx]
      go_wp2
      go_ret
      exact ⟨ret_i (by rw [← HR.out]), rfl⟩
    · have hpos : (0 : Int) < (k2 : Int) := by omega
      have ht := and_one_test k2 hk2
      have e1 : (k2 : Int) / 2 = ((k2 / 2 : Nat) : Int) := by omega
      have hsq := gm_lt ha2 ha2
      have ct := field_Times a2 a2 w ha2 ha2
      have hz2 : k2 / 2 < 9223372036854775808 := by omega
      have hz3 : k2 / 2 < k2 := by omega
      have hm : gp a2 k2 = gm (gp a2 (k2 % 2)) (gp (gm a2 a2) (k2 / 2)) := by
        rw [gp_sq ha2, ← gp_add ha2]; congr 1; omega
      by_cases hodd : k2 % 2 = 1
      · have t1 : (bits .and .i64 (k2 : Int) 1 == 1) = true := by rw [ht]; simpa using hodd
        have cx := field_Times x a2 w hx ha2
        have hxa := gm_lt hx ha2
        have HR : Hid (gm (gm x a2) (gp (gm a2 a2) (k2 / 2)) = gp a k) := by
          unfold Hid; rw [← hr.out, hm, hodd, gm_assoc hx ha2 (gp_lt hsq _)]
          rw [show gp a2 1 = a2 from one_gm ha2]
        clear ht hodd hm hr
        generalize k2 / 2 = z at *
        generalize gm a2 a2 = a3 at *
        generalize gm x a2 = x3 at *
        go_wp2_with (first | (go_at_call 51; refine cx.mono ?_; clear cx; rintro e w' ⟨rfl, rfl⟩) | (go_at_call 51; refine ct.mono ?_; rintro e w' ⟨rfl, rfl⟩))
        go_round
        case rel => exact ⟨a3, z, x3, hsq, hz2, hxa, rfl, rfl, rfl, HR⟩
        case measure => simp [intOf]; omega
      · have t1 : (bits .and .i64 (k2 : Int) 1 == 1) = false := by rw [ht]; simpa using hodd
        have HR : Hid (gm x (gp (gm a2 a2) (k2 / 2)) = gp a k) := by
          unfold Hid; rw [← hr.out, hm, show k2 % 2 = 0 from by omega, gp, one_gm (gp_lt hsq _)]
        clear ht hodd hm hr
        generalize k2 / 2 = z at *
        generalize gm a2 a2 = a3 at *
        go_wp2_with (go_at_call 51; refine ct.mono ?_; rintro e w' ⟨rfl, rfl⟩)
        go_round
        case rel => exact ⟨a3, z, x, hsq, hz2, hx, rfl, rfl, rfl, HR⟩
        case measure => simp [intOf]; omega
end Go.Proofs.Ytpbffbhebdcpbaa

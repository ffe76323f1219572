import Derived.Test.YtpbffbhebdcpbaaField
import Derived.Test.YtpbffbhebdcpbaaOwn
set_option linter.unusedVariables false
namespace Go.Proofs.Ytpbffbhebdcpbaa
open Go.RowKit

theorem shl_two (e : Nat) (h : e < 32) : ((2 : Int) ^ e % 4294967296) = ((2 ^ e : Nat) : Int) := by
  have h2 : 2 ^ e < 2 ^ 32 := Nat.pow_lt_pow_right (by omega) h
  have : ((2 : Int) ^ e) = ((2 ^ e : Nat) : Int) := by rw [Int.natCast_pow]; rfl
  rw [this]
  generalize 2 ^ e = t at *
  omega
theorem mulIn_next (a b i p j : Nat) : mulIn a b i p (j + 1) = if bitB a i && bitB b j then mulIn a b i p j ^^^ 2 ^ (i + j) else mulIn a b i p j := rfl
theorem redF_next (p k : Nat) : redF p (k + 1) = if bitB (redF p k) (6 - k) then redF p k ^^^ 19 * 2 ^ (2 - k) else redF p k := rfl

set_option maxHeartbeats 1000000 in
theorem ref_Mul (a b : Nat) (w : World) (ha : a < 16) (hb : b < 16) :
    Calls Try.prog 54 #[.int .i64 (a : Int), .int .i64 (b : Int)] w (Ret w (.int .i64 (gm a b : Int))) := by
  have HM := Lib.hid (mul_ref ha hb)
  go_enter Try.func54, Try.ntmps54
  go_wp2
  go_loop [5, 6, 7] (fun pv iv jv => ∃ i : Nat, i ≤ 4 ∧ iv = .int .i64 i ∧ pv = .int .u32 (mulOut a b i : Int)) (fun _ iv _ => 4 - (intOf iv).toNat)
  case atStart => exact ⟨0, by omega, rfl, rfl⟩
  case round =>
    obtain ⟨i, hi, rfl, rfl⟩ := hrel
    by_cases hlt : i < 4
    · have HO : Hid (mulOut a b (i + 1) = mulIn a b i (mulOut a b i) 4) := rfl
      have hbd := mulOut_lt (a := a) (b := b) (i := i) hi
      generalize mulOut a b i = q at *
      go_wp2
      go_loop [5, 7] (fun pv jv => ∃ j : Nat, j ≤ 4 ∧ jv = .int .i64 j ∧ pv = .int .u32 (mulIn a b i q j : Int)) (fun _ jv => 4 - (intOf jv).toNat)
      case atStart => exact ⟨0, by omega, rfl, rfl⟩
      case round =>
        obtain ⟨j, hj, rfl, rfl⟩ := hrel
        by_cases hlt2 : j < 4
        · have HN := Lib.hid (mulIn_next a b i q j)
          have hbi := mulIn_lt (a := a) (b := b) (i := i) (j := j) hbd hlt hj
          have c1 := fun w => ref_Bit a i w (by omega) (by omega)
          have c2 := fun w => ref_Bit b j w (by omega) (by omega)
          have e2 := shl_two (i + j) (by omega)
          have h2 : 2 ^ (i + j) < 2 ^ 7 := Nat.pow_lt_pow_right (by omega) (by omega)
          have e3 : bits .xor .u32 (mulIn a b i q j : Int) ((2 : Int) ^ (i + j)) = ((mulIn a b i q j ^^^ 2 ^ (i + j) : Nat) : Int) := by
            rw [← u32_xor_nat (mulIn a b i q j) (2 ^ (i + j)) (by omega) (by omega), Int.natCast_pow]; rfl
          generalize mulIn a b i q j = z at *
          cases hA : bitB a i
          · rw [hA] at c1 HN
            clear hA
            go_wp2_with (go_at_call 35; refine (c1 _).mono ?_; rintro e w' ⟨rfl, rfl⟩)
            go_round
            case rel => exact ⟨j + 1, by omega, by go_num, by rw [HN.out]; simp⟩
            case measure => simp [intOf]; omega
          · rw [hA] at c1 HN
            clear hA
            cases hB : bitB b j
            · rw [hB] at c2 HN
              clear hB
              go_wp2_with (first | (go_at_call 35; refine (c1 _).mono ?_; clear c1; rintro e w' ⟨rfl, rfl⟩) | (go_at_call 35; refine (c2 _).mono ?_; rintro e w' ⟨rfl, rfl⟩))
              go_round
              case rel => exact ⟨j + 1, by omega, by go_num, by rw [HN.out]; simp⟩
              case measure => simp [intOf]; omega
            · rw [hB] at c2 HN
              clear hB
              go_wp2_with (first | (go_at_call 35; refine (c1 _).mono ?_; clear c1; rintro e w' ⟨rfl, rfl⟩) | (go_at_call 35; refine (c2 _).mono ?_; rintro e w' ⟨rfl, rfl⟩))
              go_round
              case rel => exact ⟨j + 1, by omega, by go_num, by rw [HN.out]; simp⟩
              case measure => simp [intOf]; omega
        · obtain rfl : j = 4 := by omega
          go_wp2
          go_round
          case rel => exact ⟨i + 1, by omega, by go_num, by rw [HO.out]⟩
          case measure => simp [intOf]; omega
    · obtain rfl : i = 4 := by omega
      have hbd := mulOut_lt (a := a) (b := b) (i := 4) (by omega)
      generalize mulOut a b 4 = q at *
      go_wp2
      go_loop [5, 8] (fun pv iv => (iv = .int .i64 6 ∧ pv = .int .u32 (redF q 0 : Int)) ∨ (iv = .int .i64 5 ∧ pv = .int .u32 (redF q 1 : Int)) ∨ (iv = .int .i64 4 ∧ pv = .int .u32 (redF q 2 : Int)) ∨ (iv = .int .i64 3 ∧ pv = .int .u32 (redF q 3 : Int))) (fun _ iv => ((intOf iv) - 3).toNat)
      case atStart => exact .inl ⟨rfl, rfl⟩
      case round =>
        rcases hrel with ⟨rfl, rfl⟩ | ⟨rfl, rfl⟩ | ⟨rfl, rfl⟩ | ⟨rfl, rfl⟩
        · have HN := Lib.hid (redF_next q 0)
          have hbr := redF_lt (k := 0) hbd (by omega)
          have e3 : bits .xor .u32 (redF q 0 : Int) 76 = ((redF q 0 ^^^ 76 : Nat) : Int) := u32_xor_nat (redF q 0) 76 (by omega) (by omega)
          have c1 : ∀ w, Calls Try.prog 35 #[.int .u32 (redF q 0 : Int), .int .i64 6] w (Ret w (.bool (bitB (redF q 0) 6))) := fun w => ref_Bit (redF q 0) 6 w (by omega) (by omega)
          generalize redF q 0 = z at *
          cases hA : bitB z 6
          all_goals
            rw [show 6 - 0 = 6 from rfl, hA] at HN
            rw [hA] at c1
            clear hA
            go_wp2_with (go_at_call 35; refine (c1 _).mono ?_; rintro e w' ⟨rfl, rfl⟩)
            go_round
            case rel => exact .inr (.inl ⟨rfl, by rw [HN.out]; rfl⟩)
            case measure => simp [intOf]
        · have HN := Lib.hid (redF_next q 1)
          have hbr := redF_lt (k := 1) hbd (by omega)
          have e3 : bits .xor .u32 (redF q 1 : Int) 38 = ((redF q 1 ^^^ 38 : Nat) : Int) := u32_xor_nat (redF q 1) 38 (by omega) (by omega)
          have c1 : ∀ w, Calls Try.prog 35 #[.int .u32 (redF q 1 : Int), .int .i64 5] w (Ret w (.bool (bitB (redF q 1) 5))) := fun w => ref_Bit (redF q 1) 5 w (by omega) (by omega)
          generalize redF q 1 = z at *
          cases hA : bitB z 5
          all_goals
            rw [show 6 - 1 = 5 from rfl, hA] at HN
            rw [hA] at c1
            clear hA
            go_wp2_with (go_at_call 35; refine (c1 _).mono ?_; rintro e w' ⟨rfl, rfl⟩)
            go_round
            case rel => exact .inr (.inr (.inl ⟨rfl, by rw [HN.out]; rfl⟩))
            case measure => simp [intOf]
        · have HN := Lib.hid (redF_next q 2)
          have hbr := redF_lt (k := 2) hbd (by omega)
          have e3 : bits .xor .u32 (redF q 2 : Int) 19 = ((redF q 2 ^^^ 19 : Nat) : Int) := u32_xor_nat (redF q 2) 19 (by omega) (by omega)
          have c1 : ∀ w, Calls Try.prog 35 #[.int .u32 (redF q 2 : Int), .int .i64 4] w (Ret w (.bool (bitB (redF q 2) 4))) := fun w => ref_Bit (redF q 2) 4 w (by omega) (by omega)
          generalize redF q 2 = z at *
          cases hA : bitB z 4
          all_goals
            rw [show 6 - 2 = 4 from rfl, hA] at HN
            rw [hA] at c1
            clear hA
            go_wp2_with (go_at_call 35; refine (c1 _).mono ?_; rintro e w' ⟨rfl, rfl⟩)
            go_round
            case rel => exact .inr (.inr (.inr ⟨rfl, by rw [HN.out]; rfl⟩))
            case measure => simp [intOf]
        · have hbr := redF_lt (k := 3) hbd (by omega)
          rw [HM.out] at hbr ⊢
          go_wp2
          go_ret
          exact ⟨rfl, rfl⟩
end Go.Proofs.Ytpbffbhebdcpbaa

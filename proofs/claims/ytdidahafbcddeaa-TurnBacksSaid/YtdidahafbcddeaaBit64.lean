import Derived.Test.YtdidahafbcddeaaBase
import Derived.Laws.BitsAllLaws
set_option linter.unusedVariables false
namespace Go.Proofs.Ytdidahafbcddeaa
open Go.RowKit
theorem ofInt_i64 (a : Nat) (ha : a < 9223372036854775808) : (BitVec.ofInt 64 (a : Int)).toNat = a := by
  rw [BitVec.ofInt_natCast, BitVec.toNat_ofNat]; exact Nat.mod_eq_of_lt (by omega)
theorem i64_and_nat (a b : Nat) (ha : a < 9223372036854775808) (hb : b < 9223372036854775808) : bits .and .i64 (a : Int) (b : Int) = ((a &&& b : Nat) : Int) := by
  have hx : a &&& b < 2 ^ 63 := Nat.and_lt_two_pow _ (by omega)
  show IntKind.i64.wrap ((BitVec.ofInt 64 (a : Int) &&& BitVec.ofInt 64 (b : Int)).toNat : Int) = _
  rw [BitVec.toNat_and, ofInt_i64 a ha, ofInt_i64 b hb]
  exact IntWalk.i64_in _ (by omega)
theorem i64_or_nat (a b : Nat) (ha : a < 9223372036854775808) (hb : b < 9223372036854775808) : bits .or .i64 (a : Int) (b : Int) = ((a ||| b : Nat) : Int) := by
  have hx : a ||| b < 2 ^ 63 := Nat.or_lt_two_pow (by omega) (by omega)
  show IntKind.i64.wrap ((BitVec.ofInt 64 (a : Int) ||| BitVec.ofInt 64 (b : Int)).toNat : Int) = _
  rw [BitVec.toNat_or, ofInt_i64 a ha, ofInt_i64 b hb]
  exact IntWalk.i64_in _ (by omega)
theorem i64_xor_nat (a b : Nat) (ha : a < 9223372036854775808) (hb : b < 9223372036854775808) : bits .xor .i64 (a : Int) (b : Int) = ((a ^^^ b : Nat) : Int) := by
  have hx : a ^^^ b < 2 ^ 63 := Nat.xor_lt_two_pow (by omega) (by omega)
  show IntKind.i64.wrap ((BitVec.ofInt 64 (a : Int) ^^^ BitVec.ofInt 64 (b : Int)).toNat : Int) = _
  rw [BitVec.toNat_xor, ofInt_i64 a ha, ofInt_i64 b hb]
  exact IntWalk.i64_in _ (by omega)
theorem int_div_pow (x i : Nat) : ((x : Int) / 2 ^ i) = ((x / 2 ^ i : Nat) : Int) := by rw [Int.natCast_ediv, Int.natCast_pow]; rfl
theorem wrap_pow (i : Nat) (h : i < 63) : wrap64 ((2 : Int) ^ i) = ((2 ^ i : Nat) : Int) := by
  have e : ((2 : Int) ^ i) = ((2 ^ i : Nat) : Int) := by rw [Int.natCast_pow]; rfl
  have h2 : 2 ^ i < 2 ^ 63 := Nat.pow_lt_pow_right (by omega) h
  rw [e]
  generalize 2 ^ i = t at *
  exact IntWalk.wrap64_in (t : Int) (by omega)
theorem i64_mod2 (y : Nat) : ((y : Int) % 2 == 1) = (y % 2 == 1) := by
  rw [Bool.eq_iff_iff]; simp; omega
theorem bit_i64' (x i : Nat) (hx : x < 9223372036854775808) : (bits .and .i64 ((x : Int) / 2 ^ i) 1 == 1) = (x / 2 ^ i % 2 == 1) := by
  have hle : x / 2 ^ i ≤ x := Nat.div_le_self _ _
  rw [int_div_pow, show (1 : Int) = ((1 : Nat) : Int) from rfl, i64_and_nat (x / 2 ^ i) 1 (by omega) (by omega), Nat.and_one_is_mod]
  generalize x / 2 ^ i = y
  rw [Bool.eq_iff_iff]; simp; omega
end Go.Proofs.Ytdidahafbcddeaa

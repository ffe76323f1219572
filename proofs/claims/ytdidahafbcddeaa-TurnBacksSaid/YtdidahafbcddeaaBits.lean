import Derived.Test.YtdidahafbcddeaaProg
import Derived.Test.YtdidahafbcddeaaBase
import Derived.BigQuiet
import Derived.Deep.QuietTactic
import Derived.Lib.BitFns
set_option linter.unusedVariables false
namespace Go.Proofs.Ytdidahafbcddeaa
open Go.RowKit

/-! ### how many bits are set -/
def pop (x : Nat) : Nat := Lib.popAux 32 x
theorem popAux_add (a b x : Nat) : Lib.popAux (a + b) x = Lib.popAux a x + Lib.popAux b (x / 2 ^ a) := by
  induction a generalizing x with
  | zero => simp [Lib.popAux]
  | succ a ih =>
    rw [show a + 1 + b = (a + b) + 1 from by omega, Lib.popAux, Lib.popAux, ih, Nat.div_div_eq_div_mul, Nat.pow_succ, Nat.mul_comm 2]
    omega
theorem popAux_mod (a x : Nat) : Lib.popAux a (x % 2 ^ a) = Lib.popAux a x := by
  induction a generalizing x with
  | zero => simp [Lib.popAux]
  | succ a ih =>
    rw [Lib.popAux, Lib.popAux, ← ih (x / 2), ← ih (x % 2 ^ (a + 1) / 2)]
    have h1 : x % 2 ^ (a + 1) % 2 = x % 2 := Nat.mod_mod_of_dvd x ⟨2 ^ a, by rw [Nat.pow_succ, Nat.mul_comm]⟩
    have h2 : x % 2 ^ (a + 1) / 2 % 2 ^ a = x / 2 % 2 ^ a := by
      rw [Nat.pow_succ, Nat.mul_comm, Nat.mod_mul_right_div_self, Nat.mod_mod]
    rw [h1, h2]
theorem pop8_nat : ∀ n : Fin 256, Lib.pop8 (n.val : Int) = (Lib.popAux 8 n.val : Int) := by decide +kernel
theorem pop8_of (i : Int) (x : Nat) (h : i = x) (h1 : x < 256) : Lib.pop8 i = (Lib.popAux 8 x : Int) := by subst h; exact pop8_nat ⟨x, h1⟩
theorem popAux_le (a x : Nat) : Lib.popAux a x ≤ a := by
  induction a generalizing x with
  | zero => simp [Lib.popAux]
  | succ a ih => rw [Lib.popAux]; have := ih (x / 2); omega
theorem pop8_bd (i : Int) (h0 : 0 ≤ i) (h1 : i ≤ 255) : 0 ≤ Lib.pop8 i ∧ Lib.pop8 i ≤ 8 := by
  have e := pop8_of i i.toNat (by omega) (by omega)
  have l := popAux_le 8 i.toNat
  omega
theorem pop_split (x : Nat) (h : x < 4294967296) : Lib.pop8 ((x : Int) / 16777216) + Lib.pop8 ((x : Int) / 65536 % 256) + Lib.pop8 ((x : Int) / 256 % 256) + Lib.pop8 ((x : Int) % 256) = (pop x : Int) := by
  rw [pop8_of _ (x / 16777216) (by omega) (by omega), pop8_of _ (x / 65536 % 256) (by omega) (by omega), pop8_of _ (x / 256 % 256) (by omega) (by omega), pop8_of _ (x % 256) (by omega) (by omega)]
  have e1 := popAux_add 8 24 x
  have e2 := popAux_add 8 16 (x / 2 ^ 8)
  have e3 := popAux_add 8 8 (x / 2 ^ 8 / 2 ^ 8)
  have m0 := popAux_mod 8 x
  have m1 := popAux_mod 8 (x / 256)
  have m2 := popAux_mod 8 (x / 65536)
  simp only [Nat.div_div_eq_div_mul, Nat.reducePow, Nat.reduceMul, Nat.reduceAdd] at e1 e2 e3 m0 m1 m2
  rw [pop, e1, e2, e3, m0, m1, m2]
  omega
theorem pop_le (x : Nat) : pop x ≤ 32 := popAux_le 32 x
theorem u32_and255 (x : Int) (h0 : 0 ≤ x) (h1 : x < 4294967296) : bits .and .u32 x 255 = x % 256 := by
  rw [u32_and x 255 h0 h1 (by omega) (by omega)]
  have : x.toNat &&& (255 : Int).toNat = x.toNat % 256 := Nat.and_two_pow_sub_one_eq_mod x.toNat 8
  rw [this]; omega

set_option maxHeartbeats 400000 in
set_option maxRecDepth 100000 in
theorem ones_core (x : Int) (w : World) (hx : 0 ≤ x ∧ x < 4294967296) :
    Calls Try.prog 60 #[.int .u32 x] w (RetQ w (.int .i64 (Lib.pop8 (x / 16777216) + Lib.pop8 (x / 65536 % 256) + Lib.pop8 (x / 256 % 256) + Lib.pop8 (x % 256)))) := by
  obtain ⟨h1, h2⟩ := hx
  have f1 : 0 ≤ x / 16777216 := by omega
  have f2 : x / 16777216 ≤ 255 := by omega
  have f3 : 0 ≤ x / 65536 := by omega
  have f4 : x / 65536 < 4294967296 := by omega
  have f5 : 0 ≤ x / 256 := by omega
  have f6 : x / 256 < 4294967296 := by omega
  have g1 : 0 ≤ x / 65536 % 256 := by omega
  have g2 : x / 65536 % 256 ≤ 255 := by omega
  have g3 : 0 ≤ x / 256 % 256 := by omega
  have g4 : x / 256 % 256 ≤ 255 := by omega
  have g5 : 0 ≤ x % 256 := by omega
  have g6 : x % 256 ≤ 255 := by omega
  have b3 := pop8_bd (x / 16777216) (by omega) (by omega)
  have b2 := pop8_bd (x / 65536 % 256) (by omega) (by omega)
  have b1 := pop8_bd (x / 256 % 256) (by omega) (by omega)
  have b0 := pop8_bd (x % 256) (by omega) (by omega)
  have m2 := u32_and255 (x / 65536) f3 f4
  have m1 := u32_and255 (x / 256) f5 f6
  have m0 := u32_and255 x h1 h2
  have s1 : IntKind.u8.wrap (Lib.pop8 (x / 16777216) + Lib.pop8 (x / 65536 % 256)) = Lib.pop8 (x / 16777216) + Lib.pop8 (x / 65536 % 256) := IntWalk.u8_in _ (by omega)
  have s2 : IntKind.u8.wrap (Lib.pop8 (x / 16777216) + Lib.pop8 (x / 65536 % 256) + Lib.pop8 (x / 256 % 256)) = Lib.pop8 (x / 16777216) + Lib.pop8 (x / 65536 % 256) + Lib.pop8 (x / 256 % 256) := IntWalk.u8_in _ (by omega)
  have s3 : IntKind.u8.wrap (Lib.pop8 (x / 16777216) + Lib.pop8 (x / 65536 % 256) + Lib.pop8 (x / 256 % 256) + Lib.pop8 (x % 256)) = Lib.pop8 (x / 16777216) + Lib.pop8 (x / 65536 % 256) + Lib.pop8 (x / 256 % 256) + Lib.pop8 (x % 256) := IntWalk.u8_in _ (by omega)
  have s4 : IntKind.i64.wrap (Lib.pop8 (x / 16777216) + Lib.pop8 (x / 65536 % 256) + Lib.pop8 (x / 256 % 256) + Lib.pop8 (x % 256)) = Lib.pop8 (x / 16777216) + Lib.pop8 (x / 65536 % 256) + Lib.pop8 (x / 256 % 256) + Lib.pop8 (x % 256) := IntWalk.i64_in _ (by omega)
  go_enter Try.func60, Try.ntmps60
  go_wp2
  simp only [List.append_eq, List.cons_append, List.nil_append, Lib.fold_pop8tab]
  go_quiet (fail)
  go_wp2
  go_ret
  exact ⟨rfl, _, rfl⟩
theorem ones_count (x : Nat) (w : World) (hx : x < 4294967296) : Calls Try.prog 60 #[.int .u32 (x : Int)] w (RetQ w (.int .i64 (pop x))) := by
  rw [← pop_split x hx]
  exact ones_core x w (by omega)

/-! ### the reference's bits -/
theorem and_pow (x i : Nat) : x &&& 2 ^ i = if x / 2 ^ i % 2 = 1 then 2 ^ i else 0 := by
  apply Nat.eq_of_testBit_eq
  intro j
  rw [Nat.testBit_and, Nat.testBit_two_pow]
  by_cases hj : i = j
  · subst hj
    by_cases hc : x / 2 ^ i % 2 = 1
    · rw [if_pos hc, Nat.testBit_two_pow, Nat.testBit_eq_decide_div_mod_eq]; simp [hc]
    · rw [if_neg hc, Nat.testBit_eq_decide_div_mod_eq]; simp [hc]
  · split
    · rw [Nat.testBit_two_pow]; simp [hj]
    · simp [hj]
def bitB (x i : Nat) : Bool := x / 2 ^ i % 2 == 1
theorem mod_u32 (y : Nat) (h : y < 4294967296) : (y : Int) % 4294967296 = y := by omega
theorem bit_test (x i : Nat) (hx : x < 4294967296) (hi : i < 32) : (bits .and .u32 (x : Int) ((2 : Int) ^ i % 4294967296) != 0) = bitB x i := by
  have h2 : 2 ^ i < 4294967296 := by
    have := Nat.pow_lt_pow_right (a := 2) (by omega) hi
    have e : (2:Nat) ^ 32 = 4294967296 := by decide
    rw [← e]; exact this
  have e : ((2 : Int) ^ i % 4294967296) = ((2 ^ i : Nat) : Int) := by
    have : ((2 : Int) ^ i) = ((2 ^ i : Nat) : Int) := by rw [Int.natCast_pow]; rfl
    rw [this]; exact mod_u32 _ h2
  rw [e, u32_and_nat x (2 ^ i) hx h2, and_pow, bitB]
  have : 0 < 2 ^ i := Nat.pow_pos (by omega)
  by_cases hc : x / 2 ^ i % 2 = 1
  · simp only [hc, if_true]; simp; omega
  · simp [hc]

set_option maxHeartbeats 400000 in
theorem ref_Bit (x i : Nat) (w : World) (hx : x < 4294967296) (hi : i < 32) :
    Calls Try.prog 35 #[.int .u32 (x : Int), .int .i64 (i : Int)] w (Ret w (.bool (bitB x i))) := by
  have hb := Lib.hid (bit_test x i hx hi)
  go_enter Try.func35, Try.ntmps35
  go_wp2
  go_ret
  refine ⟨ret_b ?_, rfl⟩
  rw [← hb.out]

set_option maxHeartbeats 400000 in
theorem ref_Size (x : Nat) (w : World) (hx : x < 4294967296) :
    Calls Try.prog 31 #[.int .u32 (x : Int)] w (Ret w (.int .i64 (pop x))) := by
  go_enter Try.func31, Try.ntmps31
  go_wp2
  go_loop [3, 4] (fun s i => ∃ k : Nat, k ≤ 32 ∧ i = .int .i64 k ∧ s = .int .i64 (Lib.popAux k x)) (fun _ i => 32 - (intOf i).toNat)
  case atStart => exact ⟨0, by omega, rfl, rfl⟩
  case round =>
    obtain ⟨k, hk, rfl, rfl⟩ := hrel
    have hp := popAux_le k x
    by_cases hlt : k < 32
    · have c := ref_Bit x k w hx hlt
      have hs : Lib.popAux (k + 1) x = Lib.popAux k x + if bitB x k then 1 else 0 := by
        rw [popAux_add]
        simp only [Lib.popAux, bitB, Nat.add_zero, beq_iff_eq]
        by_cases hc : x / 2 ^ k % 2 = 1
        · simp [hc]
        · simp [hc]; omega
      have HS := Lib.hid hs
      clear hs
      generalize bitB x k = b at *
      cases b
      · go_wp2_with (go_at_call 35; refine c.mono ?_; rintro e w' ⟨rfl, rfl⟩)
        go_round
        case rel => exact ⟨k + 1, by omega, by go_num, by rw [HS.out]; simp⟩
        case measure => simp [intOf]; omega
      · go_wp2_with (go_at_call 35; refine c.mono ?_; rintro e w' ⟨rfl, rfl⟩)
        go_round
        case rel => exact ⟨k + 1, by omega, by go_num, by rw [HS.out]; simp⟩
        case measure => simp [intOf]; omega
    · obtain rfl : k = 32 := by omega
      go_wp2
      go_ret
      exact ⟨rfl, rfl⟩
end Go.Proofs.Ytdidahafbcddeaa

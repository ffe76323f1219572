import Derived.Test.YtakpkllfoddalaaBits
import Derived.Test.YtakpkllfoddalaaBit64
import Derived.Test.YtakpkllfoddalaaStore
import Derived.Test.YtakpkllfoddalaaCloneBools
import Derived.Test.YtakpkllfoddalaaBools
import Derived.Test.YtakpkllfoddalaaQuiet
set_option linter.unusedVariables false
namespace Go.Proofs.Ytakpkllfoddalaa
open Go.RowKit

def isPow (x : Nat) : Bool := (x &&& (x - 1)) == 0
theorem pow_even : ∀ x : Fin 17, x.val % 2 = 0 → 0 < x.val → isPow (x.val / 2) = isPow x.val := by decide
theorem pow_even' (x : Nat) (h : x ≤ 16) (h2 : x % 2 = 0) (h0 : 0 < x) : isPow (x / 2) = isPow x := pow_even ⟨x, by omega⟩ h2 h0
theorem pow_odd : ∀ x : Fin 17, x.val % 2 = 1 → isPow x.val = (x.val == 1) := by decide

theorem pow_odd' (x : Nat) (h : x ≤ 16) (h2 : x % 2 = 1) : isPow x = (x == 1) := pow_odd ⟨x, by omega⟩ h2

set_option maxHeartbeats 400000 in
theorem hamm_power (x : Nat) (w : World) (h0 : 0 < x) (hx : x ≤ 16) :
    Calls Try.prog 50 #[.int .i64 (x : Int)] w (Ret w (.bool (isPow x))) := by
  have e1 : (x : Int) - 1 = ((x - 1 : Nat) : Int) := by omega
  have hb : bits .and .i64 (x : Int) ((x - 1 : Nat) : Int) = ((x &&& (x - 1) : Nat) : Int) := i64_and_nat x (x - 1) (by omega) (by omega)
  have hE : (((x &&& (x - 1) : Nat) : Int) == 0) = isPow x := by
    unfold isPow; rw [Bool.eq_iff_iff]; simp
  have HE := Lib.hid hE
  clear hE
  go_enter Try.func50, Try.ntmps50
  go_wp2
  go_ret
  refine ⟨ret_b ?_, rfl⟩
  rw [← HE.out]

set_option maxHeartbeats 400000 in
theorem ref_Power (x : Nat) (w : World) (h0 : 0 < x) (hx : x ≤ 16) :
    Calls Try.prog 52 #[.int .i64 (x : Int)] w (Ret w (.bool (isPow x))) := by
  go_enter Try.func52, Try.ntmps52
  go_wp2
  go_loop [0] (fun v => ∃ y : Nat, 0 < y ∧ y ≤ 16 ∧ v = .int .i64 y ∧ Hid (isPow y = isPow x)) (fun v => (intOf v).toNat)
  case atStart => exact ⟨x, h0, hx, rfl, rfl⟩
  case round =>
    obtain ⟨y, hy0, hy, rfl, hp⟩ := hrel
    by_cases h2 : y % 2 = 0
    · have HP := Lib.hid (pow_even' y hy h2 hy0)
      have e1 : ((y : Int) % 2 == 0) = true := by simp; omega
      have e2 : (y : Int) / 2 = ((y / 2 : Nat) : Int) := by omega
      have hy1 : 0 < y / 2 := by omega
      have hy2 : y / 2 ≤ 16 := by omega
      have hy3 : y / 2 < y := by omega
      generalize hz : y / 2 = z at *
      have HZ := Lib.hid hz
      clear hz h2
      go_wp2
      go_round
      case rel => exact ⟨z, hy1, hy2, rfl, by unfold Hid; rw [← hp.out]; exact HP.out⟩
      case measure => simp [intOf]; omega
    · have h1 : y % 2 = 1 := by omega
      have HP := Lib.hid (pow_odd' y hy h1)
      have e1 : ((y : Int) % 2 == 0) = false := by simp; omega
      have hE : ((y : Int) == 1) = (y == 1) := by rw [Bool.eq_iff_iff]; simp; omega
      have HE := Lib.hid hE
      clear h1 h2 hE
      go_wp2
      go_ret
      exact ⟨ret_b (by rw [HE.out, ← hp.out]; exact HP.out.symm), rfl⟩

/-! ### the pointer -/
def ptrF (f : Nat → Bool) : Nat → Nat
  | 0 => 0
  | i + 1 => ptrF f i ^^^ (if f i then i + 1 else 0)
def ptrL (l : List Bool) : Nat := ptrF (fun i => l.getD i false) l.length
theorem ptrF_lt {f : Nat → Bool} {r n : Nat} (h : n < 2 ^ r) : ptrF f n < 2 ^ r := by
  induction n with
  | zero => exact h
  | succ n ih =>
    rw [ptrF]
    refine Nat.xor_lt_two_pow (ih (by omega)) ?_
    split
    · exact h
    · omega
theorem ptrF_congr {f g : Nat → Bool} {n : Nat} (h : ∀ i, i < n → f i = g i) : ptrF f n = ptrF g n := by
  induction n with
  | zero => rfl
  | succ n ih => rw [ptrF, ptrF, ih (fun i hi => h i (by omega)), h n (by omega)]

set_option maxHeartbeats 400000 in
theorem hamm_pointer (A : Option Addr) (n c : Nat) (l : List Bool) (b : Nat) (w : World) {B : Nat} (h : Reads w B A n (vb l)) (hn : n ≤ 15) (hr : Hid (ptrL l = b)) :
    Calls Try.prog 51 #[.slice A n c] w (Ret w (.int .i64 (b : Int))) := by
  have H := Lib.hid h.bool_len
  go_enter Try.func51, Try.ntmps51
  go_wp2
  go_loop [3, 8] (fun s i => ∃ k : Nat, k ≤ n ∧ i = .int .i64 k ∧ s = .int .i64 (ptrF (fun i => l.getD i false) k : Int)) (fun _ i => n - (intOf i).toNat)
  case atStart => exact ⟨0, by omega, rfl, rfl⟩
  case round =>
    obtain ⟨k, hk, rfl, rfl⟩ := hrel
    have hbd : ptrF (fun i => l.getD i false) k < 2 ^ 4 := ptrF_lt (by omega)
    by_cases hlt : k < n
    · obtain ⟨ad, x, rfl, hb, hx, hc⟩ := h.bool_at hlt
      have HN : Hid (ptrF (fun i => l.getD i false) (k + 1) = ptrF (fun i => l.getD i false) k ^^^ (if x then k + 1 else 0)) := by
        unfold Hid; rw [ptrF]; simp only [List.getD, hx, Option.getD_some]
      clear hx
      generalize ptrF (fun i => l.getD i false) k = q at *
      have hx := i64_xor_nat q (k + 1) (by omega) (by omega)
      have e1 : ((k + 1 : Nat) : Int) = (k : Int) + 1 := by omega
      rw [e1] at hx
      clear e1
      cases x
      · go_wp2
        go_round
        case rel => exact ⟨k + 1, by omega, by go_num, by rw [HN.out]; simp⟩
        case measure => simp [intOf]; omega
      · go_wp2
        go_round
        case rel => exact ⟨k + 1, by omega, by go_num, by rw [HN.out]; simp⟩
        case measure => simp [intOf]; omega
    · obtain rfl : k = n := by omega
      have ht : ptrF (fun i => l.getD i false) k = b := by rw [← hr.out, ptrL, H.out]
      rw [ht]
      clear ht hbd
      go_wp2
      go_ret
      exact ⟨rfl, rfl⟩

/-- one bit of the pointer, as an oddness -/
def oddF (f : Nat → Bool) (i : Nat) : Nat → Bool
  | 0 => false
  | k + 1 => oddF f i k != (f k && bitB (k + 1) i)
theorem bitB_xor (x y i : Nat) : bitB (x ^^^ y) i = (bitB x i != bitB y i) := by
  have h : ∀ z, bitB z i = z.testBit i := fun z => by unfold bitB; rw [Nat.testBit_eq_decide_div_mod_eq]; by_cases h : z / 2 ^ i % 2 = 1 <;> simp [h]
  rw [h, h, h, Nat.testBit_xor]
theorem odd_ptr (f : Nat → Bool) (i k : Nat) : oddF f i k = bitB (ptrF f k) i := by
  induction k with
  | zero => simp [oddF, ptrF, bitB]
  | succ k ih =>
    rw [oddF, ptrF, bitB_xor, ih]
    congr 1
    cases f k
    · simp [bitB]
    · simp
/-- the first i bits -/
theorem low_next (x i : Nat) : x % 2 ^ (i + 1) = x % 2 ^ i + if bitB x i then 2 ^ i else 0 := by
  rw [Nat.pow_succ, Nat.mod_mul]
  unfold bitB
  have : x / 2 ^ i % 2 = 0 ∨ x / 2 ^ i % 2 = 1 := by omega
  rcases this with h | h <;> simp [h]

set_option maxHeartbeats 800000 in
theorem ref_Pointer (r : Nat) (A : Option Addr) (n c : Nat) (l : List Bool) (b : Nat) (w : World) {B : Nat} (h : Reads w B A n (vb l)) (hn : n ≤ 15) (hr4 : r ≤ 4) (hnr : n < 2 ^ r) (hr : Hid (ptrL l = b)) :
    Calls Try.prog 53 #[.int .i64 (r : Int), .slice A n c] w (Ret w (.int .i64 (b : Int))) := by
  have H := Lib.hid h.bool_len
  have hlt0 : ptrL l < 2 ^ r := by unfold ptrL; rw [H.out]; exact ptrF_lt hnr
  have HB : Hid (ptrL l % 2 ^ r = b) := by unfold Hid; rw [Nat.mod_eq_of_lt hlt0]; exact hr
  clear hlt0 hnr
  go_enter Try.func53, Try.ntmps53
  go_wp2
  go_loop [5, 6] (fun s i => ∃ k : Nat, k ≤ r ∧ i = .int .i64 k ∧ s = .int .i64 ((ptrL l % 2 ^ k : Nat) : Int)) (fun _ i => r - (intOf i).toNat)
  case atStart => exact ⟨0, by omega, rfl, by simp [Nat.mod_one]⟩
  case round =>
    obtain ⟨i, hi, rfl, rfl⟩ := hrel
    by_cases hlt : i < r
    · have HN := Lib.hid (low_next (ptrL l) i)
      have hbd : ptrL l % 2 ^ i < 2 ^ 4 := Nat.lt_of_lt_of_le (Nat.mod_lt _ (Nat.pow_pos (by omega))) (Nat.pow_le_pow_right (by omega) (by omega))
      have hpi : 2 ^ i ≤ 2 ^ 4 := Nat.pow_le_pow_right (by omega) (by omega)
      have HO : Hid (oddF (fun i => l.getD i false) i n = bitB (ptrL l) i) := by unfold Hid; rw [odd_ptr, ptrL, H.out]
      have es := wrap_pow i (by omega)
      generalize ptrL l % 2 ^ i = q at *
      generalize 2 ^ i = t2 at *
      go_wp2
      go_loop [7, 8] (fun o i' => ∃ k : Nat, k ≤ n ∧ i' = .int .i64 k ∧ o = .bool (oddF (fun i => l.getD i false) i k)) (fun _ i => n - (intOf i).toNat)
      case atStart => exact ⟨0, by omega, rfl, rfl⟩
      case round =>
        obtain ⟨k, hk, rfl, rfl⟩ := hrel
        by_cases hlt2 : k < n
        · obtain ⟨ad, x, rfl, hb, hx, hc⟩ := h.bool_at hlt2
          have HF : Hid (oddF (fun i => l.getD i false) i (k + 1) = (oddF (fun i => l.getD i false) i k != (x && bitB (k + 1) i))) := by
            unfold Hid; rw [oddF]; simp only [List.getD, hx, Option.getD_some]
          have cb := fun w => ref_Bit (k + 1) i w (by omega) (by omega)
          have i1 : (0 : Int) ≤ (k : Int) := by omega
          have i2 : (k : Int) < (n : Int) := by omega
          clear hx
          generalize bitB (k + 1) i = t at *
          generalize oddF (fun i => l.getD i false) i k = o at *
          cases x
          · go_wp2
            go_round
            case rel => exact ⟨k + 1, by omega, by go_num, by rw [HF.out]; simp⟩
            case measure => simp [intOf]; omega
          · cases t
            · go_wp2_with (go_at_call 17; refine (cb _).mono ?_; rintro e w' ⟨rfl, rfl⟩)
              go_round
              case rel => exact ⟨k + 1, by omega, by go_num, by rw [HF.out]; simp⟩
              case measure => simp [intOf]; omega
            · go_wp2_with (go_at_call 17; refine (cb _).mono ?_; rintro e w' ⟨rfl, rfl⟩)
              go_round
              case rel => exact ⟨k + 1, by omega, by go_num, by rw [HF.out]; simp⟩
              case measure => simp [intOf]; omega
        · obtain rfl : k = n := by omega
          rw [HO.out]
          cases hb : bitB (ptrL l) i
          · rw [hb] at HN
            go_wp2
            go_round
            case rel => exact ⟨i + 1, by omega, by go_num, by rw [HN.out]; simp⟩
            case measure => simp [intOf]; omega
          · rw [hb] at HN
            go_wp2
            go_round
            case rel => exact ⟨i + 1, by omega, by go_num, by rw [HN.out]; simp⟩
            case measure => simp [intOf]; omega
    · obtain rfl : i = r := by omega
      rw [HB.out]
      go_wp2
      go_ret
      exact ⟨rfl, rfl⟩
end Go.Proofs.Ytakpkllfoddalaa

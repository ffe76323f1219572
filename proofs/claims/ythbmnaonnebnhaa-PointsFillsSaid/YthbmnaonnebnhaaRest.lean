import Derived.Test.YthbmnaonnebnhaaBits
import Derived.Test.YthbmnaonnebnhaaStore
import Derived.Test.YthbmnaonnebnhaaQuiet
import Derived.Test.YthbmnaonnebnhaaCloneBools
import Derived.Lib.BitFns
set_option linter.unusedVariables false
namespace Go.Proofs.Ythbmnaonnebnhaa
open Go.RowKit

/-! ### the degree -/
theorem pow_between {g d k : Nat} (h1 : 2 ^ d ≤ g) (h2 : g < 2 ^ (d + 1)) : (2 ^ k ≤ g ↔ k ≤ d) := by
  constructor
  · intro h
    have : 2 ^ k < 2 ^ (d + 1) := by omega
    have := (Nat.pow_lt_pow_iff_right (a := 2) (by omega)).1 this
    omega
  · intro h
    exact Nat.le_trans (Nat.pow_le_pow_right (by omega) h) h1
theorem bitLen_deg {x d : Nat} (h1 : 2 ^ d ≤ x) (h2 : x < 2 ^ (d + 1)) (h3 : x < 131072) : Lib.bitLen x = d + 1 := by
  rw [Lib.bitLen_shift d x h1 (by omega)]
  have hp : 0 < 2 ^ d := Nat.pow_pos (by omega)
  have : x / 2 ^ d = 1 := by
    have e := Nat.div_mul_le_self x (2 ^ d)
    rw [Nat.pow_succ] at h2
    have a := (Nat.le_div_iff_mul_le hp).2 (show 1 * 2 ^ d ≤ x by omega)
    have b : x / 2 ^ d < 2 := (Nat.div_lt_iff_lt_mul hp).2 (by omega)
    omega
  rw [this]; rfl
theorem len8_nat {y q : Nat} (h : y < 256) (hq : Lib.bitLen y = q) : Lib.len8 (y : Int) = (q : Int) := by
  rw [Lib.len8_of (y : Int) (by omega) (by omega), Int.toNat_natCast, hq]
def topB (g : Nat) : Nat → Nat
  | 0 => 0
  | k + 1 => if bitB g k then k else topB g k
theorem topB_le (g k : Nat) : topB g k ≤ k := by
  induction k with
  | zero => simp [topB]
  | succ k ih => rw [topB]; split <;> omega
theorem bitB_top {g d : Nat} (h1 : 2 ^ d ≤ g) (h2 : g < 2 ^ (d + 1)) : bitB g d = true := by
  have hp : 0 < 2 ^ d := Nat.pow_pos (by omega)
  have : g / 2 ^ d = 1 := by
    rw [Nat.pow_succ] at h2
    have a := (Nat.le_div_iff_mul_le hp).2 (show 1 * 2 ^ d ≤ g by omega)
    have b : g / 2 ^ d < 2 := (Nat.div_lt_iff_lt_mul hp).2 (by omega)
    omega
  simp [bitB, this]
theorem bitB_high {g d k : Nat} (h2 : g < 2 ^ d) (hk : d ≤ k) : bitB g k = false := by
  have : g < 2 ^ k := Nat.lt_of_lt_of_le h2 (Nat.pow_le_pow_right (by omega) hk)
  simp [bitB, Nat.div_eq_of_lt this]
theorem topB_deg {g d : Nat} (h1 : 2 ^ d ≤ g) (h2 : g < 2 ^ (d + 1)) (k : Nat) (hk : d < k) : topB g k = d := by
  induction k with
  | zero => omega
  | succ k ih =>
    rw [topB]
    by_cases e : k = d
    · subst e; rw [if_pos (bitB_top h1 h2)]
    · rw [if_neg (by rw [bitB_high h2 (by omega)]; simp)]; exact ih (by omega)
set_option maxHeartbeats 400000 in
theorem ref_Degree (x d : Nat) (w : World) (hx : x < 4294967296) (h1 : 2 ^ d ≤ x) (h2 : x < 2 ^ (d + 1)) (hd : d ≤ 16) :
    Calls Try.prog 78 #[.int .u32 (x : Int)] w (Ret w (.int .i64 (d : Int))) := by
  have HT : Hid (topB x 32 = d) := topB_deg h1 h2 32 (by omega)
  clear h1 h2
  go_enter Try.func78, Try.ntmps78
  go_wp2
  go_loop [3, 4] (fun s i => ∃ k : Nat, k ≤ 32 ∧ i = .int .i64 k ∧ s = .int .i64 (topB x k : Int)) (fun _ i => 32 - (intOf i).toNat)
  case atStart => exact ⟨0, by omega, rfl, rfl⟩
  case round =>
    obtain ⟨k, hk, rfl, rfl⟩ := hrel
    by_cases hlt : k < 32
    · have c := ref_Bit x k w hx hlt
      have HS : Hid (topB x (k + 1) = if bitB x k then k else topB x k) := rfl
      have htl := topB_le x k
      generalize topB x k = q at *
      generalize bitB x k = b at *
      cases b
      all_goals
        go_wp2_with (go_at_call 42; refine c.mono ?_; rintro e w' ⟨rfl, rfl⟩)
        go_round
        case rel => exact ⟨k + 1, by omega, by go_num, by rw [HS.out]; rfl⟩
        case measure => simp [intOf]; omega
    · obtain rfl : k = 32 := by omega
      rw [HT.out]
      go_wp2
      go_ret
      exact ⟨rfl, rfl⟩

/-! ### what is wrong -/
def badG (g : Nat) : Bool := (g % 2 == 0) || (g == 1) || decide (131071 < g)
def restErr (g n : Nat) : Int := if badG g then 4 else if 64 < n then 1 else 0
theorem badG_deg {g : Nat} (h : badG g = false) : g < 131072 ∧ g % 2 = 1 ∧ ∃ d, 1 ≤ d ∧ d ≤ 16 ∧ 2 ^ d ≤ g ∧ g < 2 ^ (d + 1) := by
  simp [badG] at h
  obtain ⟨⟨h1, h2⟩, h3⟩ := h
  refine ⟨by omega, by omega, Nat.log2 g, ?_, ?_, Nat.log2_self_le (by omega), Nat.lt_log2_self⟩
  · exact (Nat.le_log2 (by omega)).2 (by omega)
  · have := (Nat.log2_lt (n := g) (k := 17) (by omega)).2 (by omega)
    omega
end Go.Proofs.Ythbmnaonnebnhaa

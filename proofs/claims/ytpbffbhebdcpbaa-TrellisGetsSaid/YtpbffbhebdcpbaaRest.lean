import Derived.Test.YtpbffbhebdcpbaaBits
import Derived.Test.YtpbffbhebdcpbaaStore
import Derived.Test.YtpbffbhebdcpbaaQuiet
import Derived.Test.YtpbffbhebdcpbaaCloneBools
import Derived.Lib.BitFns
set_option linter.unusedVariables false
namespace Go.Proofs.Ytpbffbhebdcpbaa
open Go.RowKit

/-! ### the degree -/
theorem pow_between {g d k : Nat} (h1 : 2 ^ d ≤ g) (h2 : g < 2 ^ (d + 1)) : (2 ^ k ≤ g ↔ k ≤ d) := by
  constructor
  · intro h
    have : 2 ^ k < 2 ^ (d + 1) := by omega
    have := (Nat.pow_lt_pow_iff_right (a := 2) (by omega)).1 this
    omega
  · intro h
    exact Nat.le_trans (Nat.pow_le_pow_right (by omega) h) h1
theorem bitLen_deg {x d : Nat} (h1 : 2 ^ d ≤ x) (h2 : x < 2 ^ (d + 1)) (h3 : x < 131072) : Lib.bitLen x = d + 1 := by
  rw [Lib.bitLen_shift d x h1 (by omega)]
  have hp : 0 < 2 ^ d := Nat.pow_pos (by omega)
  have : x / 2 ^ d = 1 := by
    have e := Nat.div_mul_le_self x (2 ^ d)
    rw [Nat.pow_succ] at h2
    have a := (Nat.le_div_iff_mul_le hp).2 (show 1 * 2 ^ d ≤ x by omega)
    have b : x / 2 ^ d < 2 := (Nat.div_lt_iff_lt_mul hp).2 (by omega)
    omega
  rw [this]; rfl
theorem len8_nat {y q : Nat} (h : y < 256) (hq : Lib.bitLen y = q) : Lib.len8 (y : Int) = (q : Int) := by
  rw [Lib.len8_of (y : Int) (by omega) (by omega), Int.toNat_natCast, hq]
def topB (g : Nat) : Nat → Nat
  | 0 => 0
  | k + 1 => if bitB g k then k else topB g k
theorem topB_le (g k : Nat) : topB g k ≤ k := by
  induction k with
  | zero => simp [topB]
  | succ k ih => rw [topB]; split <;> omega
theorem bitB_top {g d : Nat} (h1 : 2 ^ d ≤ g) (h2 : g < 2 ^ (d + 1)) : bitB g d = true := by
  have hp : 0 < 2 ^ d := Nat.pow_pos (by omega)
  have : g / 2 ^ d = 1 := by
    rw [Nat.pow_succ] at h2
    have a := (Nat.le_div_iff_mul_le hp).2 (show 1 * 2 ^ d ≤ g by omega)
    have b : g / 2 ^ d < 2 := (Nat.div_lt_iff_lt_mul hp).2 (by omega)
    omega
  simp [bitB, this]
theorem bitB_high {g d k : Nat} (h2 : g < 2 ^ d) (hk : d ≤ k) : bitB g k = false := by
  have : g < 2 ^ k := Nat.lt_of_lt_of_le h2 (Nat.pow_le_pow_right (by omega) hk)
  simp [bitB, Nat.div_eq_of_lt this]
theorem topB_deg {g d : Nat} (h1 : 2 ^ d ≤ g) (h2 : g < 2 ^ (d + 1)) (k : Nat) (hk : d < k) : topB g k = d := by
  induction k with
  | zero => omega
  | succ k ih =>
    rw [topB]
    by_cases e : k = d
    · subst e; rw [if_pos (bitB_top h1 h2)]
    · rw [if_neg (by rw [bitB_high h2 (by omega)]; simp)]; exact ih (by omega)
/-! ### what is wrong -/
def badG (g : Nat) : Bool := (g % 2 == 0) || (g == 1) || decide (131071 < g)
def restErr (g n : Nat) : Int := if badG g then 4 else if 64 < n then 1 else 0
theorem badG_deg {g : Nat} (h : badG g = false) : g < 131072 ∧ g % 2 = 1 ∧ ∃ d, 1 ≤ d ∧ d ≤ 16 ∧ 2 ^ d ≤ g ∧ g < 2 ^ (d + 1) := by
  simp [badG] at h
  obtain ⟨⟨h1, h2⟩, h3⟩ := h
  refine ⟨by omega, by omega, Nat.log2 g, ?_, ?_, Nat.log2_self_le (by omega), Nat.lt_log2_self⟩
  · exact (Nat.le_log2 (by omega)).2 (by omega)
  · have := (Nat.log2_lt (n := g) (k := 17) (by omega)).2 (by omega)
    omega
end Go.Proofs.Ytpbffbhebdcpbaa

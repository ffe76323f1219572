import Derived.Test.YtpbffbhebdcpbaaBits
set_option linter.unusedVariables false
namespace Go.Proofs.Ytpbffbhebdcpbaa
open Go.RowKit

def fits (m : Nat) (x : Nat) : Bool := decide (x < 2 ^ m)
/-- what is wrong with so many bits, and with words -/
def bitsErr (n : Int) (l : List Nat) : Int := if n < 0 ∨ 12 < n then 1 else if l.all (fits n.toNat) then 0 else 4
theorem bitsErr_n {n : Int} (l : List Nat) (h : n < 0 ∨ 12 < n) : bitsErr n l = 1 := by simp [bitsErr, h]
theorem bitsErr_ok {m : Nat} {l : List Nat} (h : m ≤ 12) (hl : l.all (fits m) = true) : bitsErr m l = 0 := by
  unfold bitsErr; rw [if_neg (by omega), Int.toNat_natCast, if_pos hl]
theorem bitsErr_bad {m k x : Nat} {l : List Nat} (h : m ≤ 12) (hx : l[k]? = some x) (hb : ¬ x < 2 ^ m) : bitsErr m l = 4 := by
  unfold bitsErr; rw [if_neg (by omega), Int.toNat_natCast, if_neg]
  intro hl
  have := List.all_eq_true.1 hl x (mem_at hx)
  simp [fits] at this; omega
theorem all_fits_next {m k x : Nat} {l : List Nat} (hx : l[k]? = some x) (h : (l.take k).all (fits m) = true) (hb : x < 2 ^ m) : (l.take (k + 1)).all (fits m) = true := by
  rw [take_next hx]; simp [h]; simp [fits, hb]
theorem pow_le12 {m : Nat} (h : m ≤ 12) : 0 < 2 ^ m ∧ 2 ^ m ≤ 4096 := ⟨Nat.pow_pos (by omega), by have := Nat.pow_le_pow_right (n := 2) (by omega) h; simpa using this⟩

theorem shr_test {x m : Nat} : ((x : Int) / 2 ^ m != 0) = decide (2 ^ m ≤ x) := by
  have e : ((2 : Int) ^ m) = ((2 ^ m : Nat) : Int) := by rw [Int.natCast_pow]; rfl
  have hp : 0 < 2 ^ m := Nat.pow_pos (by omega)
  rw [e, ← Int.natCast_ediv, Bool.eq_iff_iff, bne_iff_ne, decide_eq_true_iff]
  have : x / 2 ^ m = 0 ↔ x < 2 ^ m := Nat.div_eq_zero_iff_lt hp
  omega
theorem shl_int {m : Nat} (h : m ≤ 12) : ((2 : Int) ^ m % 4294967296) = ((2 ^ m : Nat) : Int) := by
  have : ((2 : Int) ^ m) = ((2 ^ m : Nat) : Int) := by rw [Int.natCast_pow]; rfl
  rw [this]; exact mod_u32 _ (by have := (pow_le12 h).2; omega)
theorem bitsErr1 {nb : Int} {x : Nat} (h : bitsErr nb [x] = 0) : ∃ n : Nat, nb = n ∧ n ≤ 12 ∧ x < 2 ^ n := by
  unfold bitsErr at h
  split at h
  · omega
  · split at h
    · rename_i h1 h2
      refine ⟨nb.toNat, by omega, by omega, ?_⟩
      simpa [fits] using h2
    · omega

end Go.Proofs.Ytpbffbhebdcpbaa

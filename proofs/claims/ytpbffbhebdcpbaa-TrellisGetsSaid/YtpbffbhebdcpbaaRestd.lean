import Derived.Test.YtpbffbhebdcpbaaRest
set_option linter.unusedVariables false
namespace Go.Proofs.Ytpbffbhebdcpbaa
open Go.RowKit

/-! ### what is left, bit by bit -/
theorem bitB_xor' (x y i : Nat) : bitB (x ^^^ y) i = (bitB x i != bitB y i) := by
  have h : ∀ z, bitB z i = z.testBit i := fun z => by unfold bitB; rw [Nat.testBit_eq_decide_div_mod_eq]; by_cases h : z / 2 ^ i % 2 = 1 <;> simp [h]
  rw [h, h, h, Nat.testBit_xor]
theorem bitB_double (r b i : Nat) (hb : b ≤ 1) : bitB (2 * r + b) (i + 1) = bitB r i := by
  unfold bitB
  rw [Nat.pow_succ, Nat.mul_comm (2 ^ i), ← Nat.div_div_eq_div_mul, show (2 * r + b) / 2 = r from by omega]
theorem bitB_low (r b : Nat) (hb : b ≤ 1) : bitB (2 * r + b) 0 = (b == 1) := by
  unfold bitB
  rw [Nat.pow_zero, Nat.div_one]
  rw [Bool.eq_iff_iff]; simp; omega
theorem lt_of_bit {x d : Nat} (h : x < 2 ^ (d + 1)) (hb : bitB x d = false) : x < 2 ^ d := by
  rcases Nat.lt_or_ge x (2 ^ d) with h1 | h1
  · exact h1
  · rw [bitB_top h1 h] at hb; cases hb
def bN (b : Bool) : Nat := if b then 1 else 0
theorem bN_le (b : Bool) : bN b ≤ 1 := by cases b <;> simp [bN]
theorem bN_eq (b : Bool) : (bN b == 1) = b := by cases b <;> rfl
def restF (g d : Nat) (l : List Bool) : Nat → Nat
  | 0 => 0
  | k + 1 => if 2 ^ d ≤ 2 * restF g d l k + bN (l.getD k false) then (2 * restF g d l k + bN (l.getD k false)) ^^^ g else 2 * restF g d l k + bN (l.getD k false)
section
variable {g d : Nat} {l : List Bool}
theorem restF_lt (h1 : 2 ^ d ≤ g) (h2 : g < 2 ^ (d + 1)) (k : Nat) : restF g d l k < 2 ^ d := by
  induction k with
  | zero => exact Nat.pow_pos (by omega)
  | succ k ih =>
    have hb := bN_le (l.getD k false)
    rw [restF]
    split
    · rename_i h
      have hy : 2 * restF g d l k + bN (l.getD k false) < 2 ^ (d + 1) := by rw [Nat.pow_succ]; omega
      refine lt_of_bit (Nat.xor_lt_two_pow hy h2) ?_
      rw [bitB_xor', bitB_top h hy, bitB_top h1 h2]; rfl
    · omega
/-- the first d bits go in as they are -/
theorem restF_first (j : Nat) (hj : j ≤ d) : restF g d l j < 2 ^ j ∧ ∀ p, p < j → bitB (restF g d l j) (j - 1 - p) = l.getD p false := by
  induction j with
  | zero => exact ⟨by simp [restF], fun p hp => absurd hp (by omega)⟩
  | succ j ih =>
    obtain ⟨i1, i2⟩ := ih (by omega)
    have hb := bN_le (l.getD j false)
    have hlt : 2 * restF g d l j + bN (l.getD j false) < 2 ^ (j + 1) := by rw [Nat.pow_succ]; omega
    have hd : 2 ^ (j + 1) ≤ 2 ^ d := Nat.pow_le_pow_right (by omega) hj
    rw [restF, if_neg (by omega)]
    refine ⟨hlt, fun p hp => ?_⟩
    rcases Nat.lt_or_ge p j with h | h
    · rw [show j + 1 - 1 - p = (j - 1 - p) + 1 from by omega, bitB_double _ _ _ hb, i2 p h]
    · obtain rfl : p = j := by omega
      rw [show p + 1 - 1 - p = 0 from by omega, bitB_low _ _ hb, bN_eq]
/-- the reference's bits before its i-th step -/
def divA (g d : Nat) (l : List Bool) (i p : Nat) : Bool := if p < i then false else if p < i + d then bitB (restF g d l (i + d)) (d - 1 - (p - i)) else l.getD p false
/-- and within it, k bits of g taken away -/
def divB (g d : Nat) (l : List Bool) (i k p : Nat) : Bool := if i ≤ p ∧ p < i + k then (divA g d l i p != bitB g (d - (p - i))) else divA g d l i p
theorem divA_lo {i p : Nat} (h : p < i) : divA g d l i p = false := by unfold divA; rw [if_pos h]
theorem divA_mid {i p : Nat} (h : i ≤ p) (h2 : p < i + d) : divA g d l i p = bitB (restF g d l (i + d)) (d - 1 - (p - i)) := by unfold divA; rw [if_neg (by omega), if_pos h2]
theorem divA_hi {i p : Nat} (h : i + d ≤ p) : divA g d l i p = l.getD p false := by unfold divA; rw [if_neg (by omega), if_neg (by omega)]
theorem divB_in {i k p : Nat} (h : i ≤ p) (h2 : p < i + k) : divB g d l i k p = (divA g d l i p != bitB g (d - (p - i))) := by unfold divB; rw [if_pos ⟨h, h2⟩]
theorem divB_out {i k p : Nat} (h : p < i ∨ i + k ≤ p) : divB g d l i k p = divA g d l i p := by unfold divB; rw [if_neg (by omega)]
theorem divA_zero (p : Nat) : divA g d l 0 p = l.getD p false := by
  unfold divA
  rw [if_neg (by omega), Nat.zero_add]
  split
  · rename_i h
    rw [Nat.sub_zero]
    exact (restF_first d (Nat.le_refl _)).2 p h
  · rfl
theorem divA_head (hd : 1 ≤ d) (i : Nat) : divA g d l i i = bitB (restF g d l (i + d)) (d - 1) := by
  unfold divA
  rw [if_neg (by omega), if_pos (by omega), Nat.sub_self, Nat.sub_zero]
theorem divA_skip (hd : 1 ≤ d) (h1 : 2 ^ d ≤ g) (h2 : g < 2 ^ (d + 1)) (i : Nat) (h : divA g d l i i = false) (p : Nat) : divA g d l (i + 1) p = divA g d l i p := by
  have hr := restF_lt (l := l) h1 h2 (i + d)
  rw [divA_head hd] at h
  have hr2 : restF g d l (i + d) < 2 ^ (d - 1) := lt_of_bit (by rw [show d - 1 + 1 = d from by omega]; exact hr) h
  have hb := bN_le (l.getD (i + d) false)
  have hp : 2 ^ d = 2 * 2 ^ (d - 1) := by rw [← Nat.pow_succ', show (d - 1).succ = d from by omega]
  have hn : restF g d l (i + 1 + d) = 2 * restF g d l (i + d) + bN (l.getD (i + d) false) := by
    rw [show i + 1 + d = (i + d) + 1 from by omega, restF, if_neg (by omega)]
  rcases Nat.lt_trichotomy p i with h3 | h3 | h3
  · rw [divA_lo (show p < i + 1 by omega), divA_lo h3]
  · subst h3
    rw [divA_lo (show p < p + 1 by omega), divA_head hd, h]
  · rcases Nat.lt_trichotomy p (i + d) with h4 | h4 | h4
    · rw [divA_mid (show i + 1 ≤ p by omega) (show p < i + 1 + d by omega), divA_mid (show i ≤ p by omega) h4, hn, show d - 1 - (p - (i + 1)) = (d - 1 - (p - i)) + 1 from by omega, bitB_double _ _ _ hb]
    · subst h4
      rw [divA_mid (show i + 1 ≤ i + d by omega) (show i + d < i + 1 + d by omega), divA_hi (Nat.le_refl _), hn, show d - 1 - (i + d - (i + 1)) = 0 from by omega, bitB_low _ _ hb, bN_eq]
    · rw [divA_hi (show i + 1 + d ≤ p by omega), divA_hi (show i + d ≤ p by omega)]
theorem divA_step (hd : 1 ≤ d) (h1 : 2 ^ d ≤ g) (h2 : g < 2 ^ (d + 1)) (i : Nat) (h : divA g d l i i = true) (p : Nat) : divA g d l (i + 1) p = divB g d l i (d + 1) p := by
  have hr := restF_lt (l := l) h1 h2 (i + d)
  have hh := h
  rw [divA_head hd] at h
  have hge : 2 ^ (d - 1) ≤ restF g d l (i + d) := by
    rcases Nat.lt_or_ge (restF g d l (i + d)) (2 ^ (d - 1)) with h3 | h3
    · rw [bitB_high h3 (Nat.le_refl _)] at h; cases h
    · exact h3
  have hb := bN_le (l.getD (i + d) false)
  have hp : 2 ^ d = 2 * 2 ^ (d - 1) := by rw [← Nat.pow_succ', show (d - 1).succ = d from by omega]
  have hn : restF g d l (i + 1 + d) = (2 * restF g d l (i + d) + bN (l.getD (i + d) false)) ^^^ g := by
    rw [show i + 1 + d = (i + d) + 1 from by omega, restF, if_pos (by omega)]
  rcases Nat.lt_trichotomy p i with h3 | h3 | h3
  · rw [divB_out (.inl h3), divA_lo (show p < i + 1 by omega), divA_lo h3]
  · subst h3
    rw [divB_in (Nat.le_refl _) (by omega), hh, Nat.sub_self, Nat.sub_zero, bitB_top h1 h2, divA_lo (show p < p + 1 by omega)]; rfl
  · rcases Nat.lt_trichotomy p (i + d) with h4 | h4 | h4
    · rw [divB_in (by omega) (by omega), divA_mid (show i + 1 ≤ p by omega) (show p < i + 1 + d by omega), divA_mid (show i ≤ p by omega) h4, hn, show d - 1 - (p - (i + 1)) = d - (p - i) from by omega, bitB_xor']
      congr 1
      rw [show d - (p - i) = (d - 1 - (p - i)) + 1 from by omega, bitB_double _ _ _ hb]
    · subst h4
      rw [divB_in (by omega) (by omega), divA_mid (show i + 1 ≤ i + d by omega) (show i + d < i + 1 + d by omega), divA_hi (Nat.le_refl _), hn, show d - 1 - (i + d - (i + 1)) = 0 from by omega, show d - (i + d - i) = 0 from by omega, bitB_xor', bitB_low _ _ hb, bN_eq]
    · rw [divB_out (.inr (by omega)), divA_hi (show i + 1 + d ≤ p by omega), divA_hi (show i + d ≤ p by omega)]
/-- at the end the bits of what is left stand -/
theorem divA_end (h1 : 2 ^ d ≤ g) (h2 : g < 2 ^ (d + 1)) (n i : Nat) (hn : l.length = n) (hi : i + d = n ∨ i = 0 ∧ n < d) (p : Nat) (hp : p < n) : divA g d l i p = bitB (restF g d l n) (n - 1 - p) := by
  rcases hi with hi | ⟨rfl, hi⟩
  · have hr := restF_lt (l := l) h1 h2 n
    rcases Nat.lt_or_ge p i with h3 | h3
    · rw [divA_lo h3, bitB_high hr (by omega)]
    · rw [divA_mid h3 (by omega), hi, show d - 1 - (p - i) = n - 1 - p from by omega]
  · rw [divA_zero]
    exact ((restF_first n (by omega)).2 p hp).symm
theorem restF_ltn (h1 : 2 ^ d ≤ g) (h2 : g < 2 ^ (d + 1)) (n : Nat) : restF g d l n < 2 ^ n := by
  rcases Nat.lt_or_ge n d with h | h
  · exact (restF_first n (by omega)).1
  · exact Nat.lt_of_lt_of_le (restF_lt h1 h2 n) (Nat.pow_le_pow_right (by omega) h)
theorem divB_next (i k : Nat) (p : Nat) (hp : p = i + k) : divB g d l i (k + 1) p = (divB g d l i k p != bitB g (d - k)) ∧ ∀ q, q ≠ p → divB g d l i (k + 1) q = divB g d l i k q := by
  subst hp
  unfold divB
  refine ⟨?_, fun q hq => ?_⟩
  · rw [if_pos (by omega), if_neg (by omega), show i + k - i = k from by omega]
  · by_cases h : i ≤ q ∧ q < i + k
    · rw [if_pos (by omega), if_pos h]
    · rw [if_neg (by omega), if_neg h]
theorem divB_zero (i p : Nat) : divB g d l i 0 p = divA g d l i p := by
  unfold divB; rw [if_neg (by omega)]
end
theorem map_range_set {α : Type} {f f' : Nat → α} {n p : Nat} (h : ∀ q, q ≠ p → f' q = f q) : ((List.range n).map f).set p (f' p) = (List.range n).map f' := by
  apply List.ext_getElem?
  intro j
  rw [List.getElem?_set, List.length_map, List.length_range]
  by_cases hj : j < n
  · rw [List.getElem?_map, List.getElem?_map, List.getElem?_range hj]
    by_cases e : p = j
    · subst e; rw [if_pos rfl, if_pos hj]; rfl
    · rw [if_neg e]; simp only [Option.map_some]; rw [h j (by omega)]
  · rw [List.getElem?_eq_none (by simpa using hj), List.getElem?_eq_none (by simpa using hj)]
    split
    · rw [if_neg (by omega)]
    · rfl
theorem map_range_at {α : Type} (f : Nat → α) {n p : Nat} (h : p < n) : ((List.range n).map f)[p]? = some (f p) := by
  rw [List.getElem?_map, List.getElem?_range h]; rfl
theorem map_range_list {l : List Bool} {n : Nat} (hn : l.length = n) : (List.range n).map (fun p => l.getD p false) = l := by
  apply List.ext_getElem?
  intro j
  by_cases hj : j < n
  · rw [map_range_at _ hj, List.getD, List.getElem?_eq_getElem (by omega)]; rfl
  · rw [List.getElem?_eq_none (by simpa using hj), List.getElem?_eq_none (by omega)]

end Go.Proofs.Ytpbffbhebdcpbaa

/-
  One bit put into a list of bits: what the places of the set bits come to, and that this tells the list. Plain words.
-/
import Derived.Test.YthbmnaonnebnhaaDrop
import Derived.Test.YthbmnaonnebnhaaOnes
set_option linter.unusedVariables false
namespace Go.Proofs.Ythbmnaonnebnhaa
open Go.RowKit

/-- one bit put in at k -/
def insL (l : List Bool) (k : Nat) (b : Bool) : List Bool := l.take k ++ b :: l.drop k
theorem insL_len {l : List Bool} {k : Nat} (b : Bool) (hk : k ≤ l.length) : (insL l k b).length = l.length + 1 := by
  simp [insL]; omega
def zerL (l : List Bool) : Nat := onesL (l.map not)
theorem zer_ones (l : List Bool) : zerL l + onesL l = l.length := onesL_not l
/-- what it adds to the sum -/
def ovr (l : List Bool) (k : Nat) (b : Bool) : Nat := if b then onesL l + 1 + zerL (l.take k) else onesL (l.drop k)
theorem ones_split (l : List Bool) (k : Nat) : onesL l = onesL (l.take k) + onesL (l.drop k) := by
  rw [← onesL_append, List.take_append_drop]
theorem zer_split (l : List Bool) (k : Nat) : zerL l = zerL (l.take k) + zerL (l.drop k) := by
  unfold zerL; rw [← onesL_append, ← List.map_append, List.take_append_drop]
theorem wg_shift (l : List Bool) (i : Int) : wg l (i + 1) = wg l i + onesL l := by
  induction l generalizing i with
  | nil => simp [wg, onesL]
  | cons x a ih => simp only [wg, onesL, ih]; split <;> simp <;> omega
theorem weigh_ins {l : List Bool} {k : Nat} (b : Bool) (hk : k ≤ l.length) : weighOf (insL l k b) = weighOf l + ovr l k b := by
  have e1 : weighOf l = wg (l.take k) 0 + wg (l.drop k) (k : Int) := by
    have := wg_append (l.take k) (l.drop k) 0
    rw [List.take_append_drop] at this
    unfold weighOf; rw [this]; simp [Nat.min_eq_left hk]
  have e2 : weighOf (insL l k b) = wg (l.take k) 0 + ((if b then (k : Int) + 1 else 0) + wg (l.drop k) ((k : Int) + 1)) := by
    unfold weighOf insL; rw [wg_append]; simp [wg, Nat.min_eq_left hk]
  rw [e1, e2, wg_shift]
  have h1 := ones_split l k
  have h2 := zer_ones (l.take k)
  have h3 : (l.take k).length = k := by simp [hk]
  unfold ovr
  cases b
  · simp; omega
  · simp; omega
theorem ovr_le {l : List Bool} {k : Nat} (b : Bool) (hk : k ≤ l.length) : ovr l k b ≤ l.length + 1 := by
  have h1 := ones_split l k
  have h2 := zer_ones l
  have h3 := zer_split l k
  unfold ovr
  split <;> omega
theorem ones_drop_le (l : List Bool) (k : Nat) : onesL (l.drop k) ≤ onesL l := by have := ones_split l k; omega
theorem ins_false : ∀ (l : List Bool) (k k' : Nat), k ≤ k' → k' ≤ l.length → onesL (l.drop k) = onesL (l.drop k') → insL l k false = insL l k' false
  | [], k, k', h1, h2, _ => by simp at h2; obtain rfl : k = k' := by omega
                               rfl
  | x :: t, 0, 0, _, _, _ => rfl
  | x :: t, 0, j + 1, h1, h2, h3 => by
    simp only [List.drop_succ_cons, List.drop_zero, onesL] at h3
    have := ones_drop_le t j
    have ih := ins_false t 0 j (Nat.zero_le _) (by simpa using h2) (by simp; split at h3 <;> omega)
    cases x
    · show false :: false :: t = false :: insL t j false
      rw [← ih]; rfl
    · simp at h3; omega
  | x :: t, i + 1, 0, h1, _, _ => by omega
  | x :: t, i + 1, j + 1, h1, h2, h3 => by
    have ih := ins_false t i j (by omega) (by simpa using h2) (by simpa using h3)
    show x :: insL t i false = x :: insL t j false
    rw [ih]
theorem ins_true : ∀ (l : List Bool) (k k' : Nat), k ≤ k' → k' ≤ l.length → zerL (l.take k) = zerL (l.take k') → insL l k true = insL l k' true
  | [], k, k', h1, h2, _ => by simp at h2; obtain rfl : k = k' := by omega
                               rfl
  | x :: t, 0, 0, _, _, _ => rfl
  | x :: t, 0, j + 1, h1, h2, h3 => by
    simp only [List.take_succ_cons, List.take_zero, zerL, List.map_cons, List.map_nil, onesL] at h3
    have ih := ins_true t 0 j (Nat.zero_le _) (by simpa using h2) (by simp only [List.take_zero, zerL, List.map_nil, onesL]; omega)
    cases x
    · simp at h3; omega
    · show true :: true :: t = true :: insL t j true
      rw [← ih]; rfl
  | x :: t, i + 1, 0, h1, _, _ => by omega
  | x :: t, i + 1, j + 1, h1, h2, h3 => by
    simp only [List.take_succ_cons, zerL, List.map_cons, onesL] at h3
    have ih := ins_true t i j (by omega) (by simpa using h2) (by unfold zerL; omega)
    show x :: insL t i true = x :: insL t j true
    rw [ih]
theorem ins_eq {l : List Bool} {k k' : Nat} {b b' : Bool} (hk : k ≤ l.length) (hk' : k' ≤ l.length) (h : ovr l k b = ovr l k' b') : insL l k b = insL l k' b' := by
  have h1 := ones_drop_le l k
  have h2 := ones_drop_le l k'
  unfold ovr at h
  cases b <;> cases b' <;> simp at h
  · rcases Nat.le_total k k' with hl | hl
    · exact ins_false l k k' hl hk' h
    · exact (ins_false l k' k hl hk h.symm).symm
  · omega
  · omega
  · rcases Nat.le_total k k' with hl | hl
    · exact ins_true l k k' hl hk' h
    · exact (ins_true l k' k hl hk h.symm).symm
theorem places_ins {l : List Bool} {k : Nat} (b : Bool) (hk : k ≤ l.length) : placesOf (insL l k b) = (weighOf l + ovr l k b) % ((l.length : Int) + 2) := by
  unfold placesOf; rw [weigh_ins b hk, insL_len b hk]
  congr 1
/-- the sum tells the list -/
theorem ins_uniq {l : List Bool} {k k' : Nat} {b b' : Bool} (hk : k ≤ l.length) (hk' : k' ≤ l.length) (h : placesOf (insL l k b) = placesOf (insL l k' b')) : insL l k b = insL l k' b' := by
  rw [places_ins b hk, places_ins b' hk'] at h
  have h1 := ovr_le b hk
  have h2 := ovr_le b' hk'
  refine ins_eq hk hk' ?_
  have h3 := Int.emod_emod_of_dvd (weighOf l + ovr l k b - (weighOf l + ovr l k' b')) (Int.dvd_refl ((l.length : Int) + 2))
  have h4 : (weighOf l + ovr l k b - (weighOf l + ovr l k' b')) % ((l.length : Int) + 2) = 0 := by
    rw [Int.sub_emod, h, Int.sub_self]; rfl
  have h5 := Int.dvd_of_emod_eq_zero h4
  have h6 : weighOf l + ovr l k b - (weighOf l + ovr l k' b') = (ovr l k b : Int) - ovr l k' b' := by omega
  rw [h6] at h5
  obtain ⟨q, hq⟩ := h5
  have hq0 : q = 0 := by
    rcases Int.lt_trichotomy q 0 with h7 | h7 | h7
    · exfalso
      have : ((l.length : Int) + 2) * q ≤ ((l.length : Int) + 2) * (-1) := Int.mul_le_mul_of_nonneg_left (by omega) (by omega)
      omega
    · exact h7
    · exfalso
      have : ((l.length : Int) + 2) * 1 ≤ ((l.length : Int) + 2) * q := Int.mul_le_mul_of_nonneg_left (by omega) (by omega)
      omega
  subst hq0
  simp at hq
  omega
/-- what is lacking -/
def lackOf (a W m : Int) : Int := ((a - W).tmod m + m) % m
theorem lack_bd {a W m : Int} (hm : 0 < m) : 0 ≤ lackOf a W m ∧ lackOf a W m < m := ⟨Int.emod_nonneg _ (by omega), Int.emod_lt_of_pos _ hm⟩
theorem lack_sum {a W m : Int} (hm : 0 < m) (h0 : 0 ≤ a) (h1 : a < m) : (W + lackOf a W m) % m = a := by
  unfold lackOf
  have e : (a - W).tmod m = (a - W) - m * ((a - W).tdiv m) := by have := Int.mul_tdiv_add_tmod (a - W) m; omega
  rw [e, Int.add_emod, Int.emod_emod, ← Int.add_emod]
  have e2 : W + (a - W - m * ((a - W).tdiv m) + m) = a + m * (1 - (a - W).tdiv m) := by rw [Int.mul_sub]; omega
  rw [e2, Int.add_mul_emod_self_left, Int.emod_eq_of_lt h0 h1]
end Go.Proofs.Ythbmnaonnebnhaa

/-
  Lists of bits: how many are set, turning the first so many. Plain words.
-/
import Derived.Test.YtpbffbhebdcpbaaBase
set_option linter.unusedVariables false
namespace Go.Proofs.Ytpbffbhebdcpbaa
open Go.RowKit

def onesL : List Bool → Nat
  | [] => 0
  | b :: l => (if b then 1 else 0) + onesL l
theorem onesL_append (a b : List Bool) : onesL (a ++ b) = onesL a + onesL b := by
  induction a with
  | nil => simp [onesL]
  | cons x a ih => simp only [List.cons_append, onesL, ih]; omega
theorem onesL_le (l : List Bool) : onesL l ≤ l.length := by
  induction l with
  | nil => simp [onesL]
  | cons x a ih => simp only [onesL, List.length_cons]; split <;> omega
theorem onesL_next {l : List Bool} {k : Nat} {x : Bool} (h : l[k]? = some x) : onesL (l.take (k + 1)) = onesL (l.take k) + if x then 1 else 0 := by
  rw [take_next h, onesL_append]; simp [onesL]
theorem onesL_not (l : List Bool) : onesL (l.map not) + onesL l = l.length := by
  induction l with
  | nil => simp [onesL]
  | cons x a ih => cases x <;> simp only [List.map_cons, onesL, List.length_cons, Bool.not_true, Bool.not_false, if_true, Bool.false_eq_true, if_false] <;> omega

/-- with the first k turned -/
def turnL (l : List Bool) (k : Nat) : List Bool := (l.take k).map not ++ l.drop k
theorem turnL_zero (l : List Bool) : turnL l 0 = l := by simp [turnL]
theorem turnL_len (l : List Bool) (k : Nat) : (turnL l k).length = l.length := by simp [turnL]; omega
theorem turnL_at {l : List Bool} {k : Nat} {x : Bool} (h : l[k]? = some x) : (turnL l k)[k]? = some x := by
  have hk := (List.getElem?_eq_some_iff.1 h).1
  have hl : ((l.take k).map not).length = k := by simp; omega
  unfold turnL
  rw [List.getElem?_append_right (by omega), hl, Nat.sub_self, drop_next h]; rfl
theorem turnL_next {l : List Bool} {k : Nat} {x : Bool} (h : l[k]? = some x) : (turnL l k).set k (!x) = turnL l (k + 1) := by
  have hk := (List.getElem?_eq_some_iff.1 h).1
  have hl : ((l.take k).map not).length = k := by simp; omega
  unfold turnL
  rw [List.set_append_right _ _ (by omega), hl, Nat.sub_self, drop_next h, take_next h, List.map_append, List.set_cons_zero]
  simp
/-- twice the ones less the length -/
def balL (l : List Bool) : Int := 2 * (onesL l : Int) - l.length
theorem bal_turn (l : List Bool) (k : Nat) (hk : k ≤ l.length) : balL (turnL l k) = 2 * (k : Int) - 4 * onesL (l.take k) + 2 * onesL l - l.length := by
  have h1 := onesL_not (l.take k)
  have h2 : onesL l = onesL (l.take k) + onesL (l.drop k) := by rw [← onesL_append, List.take_append_drop]
  have h3 : (l.take k).length = k := by simp; omega
  unfold balL
  rw [turnL_len]
  unfold turnL
  rw [onesL_append]
  omega
/-- the least of those that there are -/
theorem least_of (p : Nat → Prop) (n : Nat) (h : ∃ k, k ≤ n ∧ p k) : ∃ k, k ≤ n ∧ p k ∧ ∀ j, j < k → ¬ p j := by
  induction n with
  | zero =>
    obtain ⟨k, hk, hp⟩ := h
    obtain rfl : k = 0 := by omega
    exact ⟨0, Nat.le_refl _, hp, fun j hj => by omega⟩
  | succ n ih =>
    by_cases h2 : ∃ k, k ≤ n ∧ p k
    · obtain ⟨k, h1, h2, h3⟩ := ih h2
      exact ⟨k, by omega, h2, h3⟩
    · obtain ⟨k, hk, hp⟩ := h
      have hkn : k = n + 1 := by
        rcases Nat.lt_or_ge k (n + 1) with hlt | hge
        · exact absurd ⟨k, by omega, hp⟩ h2
        · omega
      subst hkn
      exact ⟨_, Nat.le_refl _, hp, fun j hj hpj => h2 ⟨j, by omega, hpj⟩⟩
theorem bal_exists (l : List Bool) (he : l.length % 2 = 0) : ∃ k, k ≤ l.length ∧ balL (turnL l k) = 0 ∧ ∀ j, j < k → balL (turnL l j) ≠ 0 := by
  refine least_of (fun k => balL (turnL l k) = 0) l.length ?_
  · apply Classical.byContradiction
    intro hno
    have hne : ∀ k, k ≤ l.length → balL (turnL l k) ≠ 0 := fun k hk h => hno ⟨k, hk, h⟩
    have step : ∀ k, k < l.length → ∃ b : Nat, b ≤ 1 ∧ onesL (l.take (k + 1)) = onesL (l.take k) + b := fun k hk => by
      have := onesL_next (l := l) (k := k) (List.getElem?_eq_getElem hk)
      refine ⟨if l[k] then 1 else 0, by split <;> omega, this⟩
    have all : ∀ k, k ≤ l.length → (0 < balL (turnL l 0) ↔ 0 < balL (turnL l k)) := by
      intro k
      induction k with
      | zero => intro _; exact Iff.rfl
      | succ k ih =>
        intro hk
        obtain ⟨b, hb, e⟩ := step k (by omega)
        have i := ih (by omega)
        have n1 := hne k (by omega)
        have n2 := hne (k + 1) hk
        rw [bal_turn l k (by omega)] at i n1
        rw [bal_turn l (k + 1) hk] at n2 ⊢
        omega
    have hl := all l.length (Nat.le_refl _)
    have n0 := hne 0 (by omega)
    rw [bal_turn l 0 (by omega)] at hl n0
    rw [bal_turn l l.length (Nat.le_refl _)] at hl
    rw [List.take_length] at hl
    simp only [List.take_zero, onesL] at hl n0
    omega
end Go.Proofs.Ytpbffbhebdcpbaa

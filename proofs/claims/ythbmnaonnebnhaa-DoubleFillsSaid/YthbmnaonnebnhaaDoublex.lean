/-
  What double.Fill makes of its arguments ahead of the sums. Plain words.
-/
import Derived.Test.YthbmnaonnebnhaaDoublef
import Derived.Test.YthbmnaonnebnhaaFieldc
import Derived.Test.YthbmnaonnebnhaaStore
set_option linter.unusedVariables false
namespace Go.Proofs.Ythbmnaonnebnhaa
open Go.RowKit

def lsB (lost : List Bool) (i : Nat) : Bool := lost.getD i false
def zeroL (l : List Int) (lost : List Bool) (k : Nat) : List Int := (List.range l.length).map fun i => if decide (i < k) && lsB lost i then 0 else l.getD i 0
def goneL (lost : List Bool) (k : Nat) : List Nat := (List.range k).filter (lsB lost)
def badAt (l : List Int) (lost : List Bool) (i : Nat) : Bool := !lsB lost i && badF (l.getD i 0)
def dfErr (l : List Int) (lost : List Bool) (n n' : Nat) : Int :=
  if n < 3 ∨ n' ≠ n then 3 else if 14 < n then 1 else if (List.range n).any (badAt l lost) then 4 else if 2 < (goneL lost n).length then 5 else 0
theorem zeroL_len (l : List Int) (lost : List Bool) (k : Nat) : (zeroL l lost k).length = l.length := by simp [zeroL]
theorem zeroL_zero (l : List Int) (lost : List Bool) : zeroL l lost 0 = l := by
  apply List.ext_getElem?
  intro i
  unfold zeroL
  rw [List.getElem?_map]
  rcases Nat.lt_or_ge i l.length with h | h
  · rw [List.getElem?_range h, List.getElem?_eq_getElem h]; simp [List.getD, h]
  · rw [List.getElem?_eq_none (by simpa using h), List.getElem?_eq_none h]; rfl
theorem zeroL_at {l : List Int} {lost : List Bool} {k i : Nat} {x : Int} (h : l[i]? = some x) : (zeroL l lost k)[i]? = some (if decide (i < k) && lsB lost i then 0 else x) := by
  have hi := (List.getElem?_eq_some_iff.1 h).1
  unfold zeroL
  rw [List.getElem?_map, List.getElem?_range hi]
  simp [List.getD, h]
theorem zeroL_next {l : List Int} {lost : List Bool} {k : Nat} (hk : k < l.length) : zeroL l lost (k + 1) = if lsB lost k then (zeroL l lost k).set k 0 else zeroL l lost k := by
  apply List.ext_getElem?
  intro i
  rcases Nat.lt_or_ge i l.length with h | h
  · have hx := List.getElem?_eq_getElem h
    rw [zeroL_at hx]
    by_cases hl : lsB lost k = true
    · rw [if_pos hl, List.getElem?_set]
      by_cases e : k = i
      · subst e
        have e1 : (decide (k < k + 1) && lsB lost k) = true := by simp [hl]
        rw [if_pos e1, if_pos rfl, if_pos (by rw [zeroL_len]; exact h)]
      · rw [if_neg e, zeroL_at hx]
        have : decide (i < k + 1) = decide (i < k) := by rw [Bool.eq_iff_iff]; simp; omega
        rw [this]
    · rw [if_neg hl, zeroL_at hx]
      by_cases e : i = k
      · subst e
        have : lsB lost i = false := by simpa using hl
        simp [this]
      · have : decide (i < k + 1) = decide (i < k) := by rw [Bool.eq_iff_iff]; simp; omega
        rw [this]
  · rw [List.getElem?_eq_none (by rw [zeroL_len]; exact h)]
    split
    · rw [List.getElem?_eq_none (by rw [List.length_set, zeroL_len]; exact h)]
    · rw [List.getElem?_eq_none (by rw [zeroL_len]; exact h)]
theorem goneL_next (lost : List Bool) (k : Nat) : goneL lost (k + 1) = goneL lost k ++ if lsB lost k then [k] else [] := filt_next _ _
theorem goneL_lt {lost : List Bool} {k : Nat} : ∀ i ∈ goneL lost k, i < k ∧ lsB lost i = true := by
  intro i hi
  obtain ⟨h1, h2⟩ := List.mem_filter.1 hi
  exact ⟨List.mem_range.1 h1, h2⟩
theorem goneL_nodup (lost : List Bool) (k : Nat) : (goneL lost k).Nodup := List.nodup_range.filter _
theorem goneL_split (lost : List Bool) (n : Nat) : goneL lost (n + 2) = goneL lost n ++ ((if lsB lost n then [n] else []) ++ (if lsB lost (n + 1) then [n + 1] else [])) := by
  rw [goneL_next, goneL_next, List.append_assoc]
theorem goneL_take (lost : List Bool) (n : Nat) : goneL lost n = (goneL lost (n + 2)).take (goneL lost n).length := by
  rw [goneL_split, List.take_left]
/-- the numbers that are left, as naturals -/
theorem zeroL_nats {l : List Int} {lost : List Bool} {n : Nat} (hn : l.length = n) (h : (List.range n).any (badAt l lost) = false) : ∃ D : List Nat, zeroL l lost n = D.map (fun x : Nat => (x : Int)) ∧ D.length = n ∧ (∀ x ∈ D, x < 16) ∧ ∀ i ∈ goneL lost n, D.getD i 0 = 0 := by
  refine ⟨(zeroL l lost n).map Int.toNat, ?_, by rw [List.length_map, zeroL_len, hn], ?_, ?_⟩
  · rw [List.map_map]
    have : ∀ z ∈ zeroL l lost n, (((fun x : Nat => (x : Int)) ∘ Int.toNat) z) = z := by
      intro z hz
      obtain ⟨i, hi, rfl⟩ := List.mem_map.1 hz
      have hi := List.mem_range.1 hi
      have hb : badAt l lost i = false := by
        have := List.any_eq_false.1 h i (List.mem_range.2 (by omega))
        simpa using this
      simp only [Function.comp]
      by_cases hl : lsB lost i = true
      · rw [if_pos (by simp [hl]; omega)]; rfl
      · have hl' : lsB lost i = false := by simpa using hl
        rw [if_neg (by simp [hl'])]
        unfold badAt at hb
        rw [hl'] at hb
        have := badF_ok (z := l.getD i 0) hb
        omega
    conv => lhs; rw [← List.map_id (zeroL l lost n)]
    exact (List.map_congr_left (fun z hz => (this z hz).symm))
  · intro x hx
    obtain ⟨z, hz, rfl⟩ := List.mem_map.1 hx
    obtain ⟨i, hi, rfl⟩ := List.mem_map.1 hz
    have hi := List.mem_range.1 hi
    have hb : badAt l lost i = false := by
      have := List.any_eq_false.1 h i (List.mem_range.2 (by omega))
      simpa using this
    by_cases hl : lsB lost i = true
    · rw [if_pos (by simp [hl]; omega)]; decide
    · have hl' : lsB lost i = false := by simpa using hl
      rw [if_neg (by simp [hl'])]
      unfold badAt at hb
      rw [hl'] at hb
      have := badF_ok (z := l.getD i 0) hb
      omega
  · intro i hi
    obtain ⟨h1, h2⟩ := goneL_lt i hi
    have hx : l[i]? = some l[i] := List.getElem?_eq_getElem (by omega)
    rw [List.getD_eq_getElem?_getD, List.getElem?_map, zeroL_at hx, if_pos (by simp [h1, h2])]
    rfl
theorem dbA_take (l : List Nat) (n : Nat) : ∀ k, k ≤ n → dbA (l.take n) k = dbA l k
  | 0, _ => rfl
  | k + 1, h => by
    rw [dbA, dbA, dbA_take l n k (by omega)]
    rw [List.getD_eq_getElem?_getD, List.getElem?_take_of_lt (by omega), ← List.getD_eq_getElem?_getD]
theorem dbB_take (l : List Nat) (n : Nat) : ∀ k, k ≤ n → dbB (l.take n) k = dbB l k
  | 0, _ => rfl
  | k + 1, h => by
    rw [dbB, dbB, dbB_take l n k (by omega)]
    rw [List.getD_eq_getElem?_getD, List.getElem?_take_of_lt (by omega), ← List.getD_eq_getElem?_getD]
theorem take_set_lt {α : Type} {l : List α} {i n : Nat} {a : α} (hi : i < n) : (l.set i a).take n = (l.take n).set i a := by
  rw [List.take_set]
theorem setG_take {d gone : List Nat} {a b n : Nat} : (setG d gone a b).take n = setG (d.take n) gone a b := by
  match gone with
  | [] => rfl
  | [i] => exact List.take_set
  | i :: j :: _ => show ((d.set i a).set j b).take n = ((d.take n).set i a).set j b; rw [List.take_set, List.take_set]
/-- lists of one length that are alike but at one place -/
theorem set_alike {α : Type} {X Y : List α} {i : Nat} {a : α} (hl : X.length = Y.length) (h : ∀ k, k ≠ i → X[k]? = Y[k]?) : X.set i a = Y.set i a := by
  apply List.ext_getElem?
  intro k
  rw [List.getElem?_set, List.getElem?_set, hl]
  by_cases e : i = k
  · rw [if_pos e, if_pos e]
  · rw [if_neg e, if_neg e]; exact h k (fun e2 => e e2.symm)
end Go.Proofs.Ythbmnaonnebnhaa

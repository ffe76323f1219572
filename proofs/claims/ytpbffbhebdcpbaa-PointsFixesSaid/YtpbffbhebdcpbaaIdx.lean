/-
  The first index at which a test says yes: plain words for the contracts of slices.IndexFunc and its kin.
-/
import Derived.Test.YtpbffbhebdcpbaaBase
set_option linter.unusedVariables false
namespace Go.Proofs.Ytpbffbhebdcpbaa
open Go.RowKit

def idxOf (p : Nat → Bool) (n : Nat) : Int := match (List.range n).find? p with | some j => j | none => -1
def anyTo (p : Nat → Bool) (n : Nat) : Bool := (List.range n).any p
theorem idxOf_hit {p : Nat → Bool} {n k : Nat} (hk : k < n) (h : p k = true) (hall : ∀ j, j < k → p j = false) : idxOf p n = k := by
  have : (List.range n).find? p = some k := by
    rw [List.find?_range_eq_some]
    exact ⟨h, by simpa using hk, fun j hj => by simp [hall j hj]⟩
  unfold idxOf; rw [this]
theorem idxOf_none {p : Nat → Bool} {n : Nat} (hall : ∀ j, j < n → p j = false) : idxOf p n = -1 := by
  have : (List.range n).find? p = none := by
    rw [List.find?_eq_none]; intro j hj; simp [hall j (List.mem_range.1 hj)]
  unfold idxOf; rw [this]
theorem anyTo_idx (p : Nat → Bool) (n : Nat) : decide (0 ≤ idxOf p n) = anyTo p n := by
  unfold idxOf anyTo
  cases h : (List.range n).find? p with
  | none => 
    have := List.find?_eq_none.1 h
    symm; simp only [Int.reduceNeg, Int.reduceLE, decide_false, List.any_eq_false]; exact this
  | some j =>
    have h1 := List.find?_some h
    have h2 := List.mem_of_find?_eq_some h
    symm; simp only [Int.natCast_nonneg, decide_true, List.any_eq_true]; exact ⟨j, h2, h1⟩
theorem anyTo_list {α : Type} (l : List α) (q : α → Bool) (p : Nat → Bool) (h : ∀ k x, l[k]? = some x → p k = q x) : anyTo p l.length = l.any q := by
  unfold anyTo
  rw [Bool.eq_iff_iff, List.any_eq_true, List.any_eq_true]
  constructor
  · rintro ⟨k, hk, hp⟩
    have hl := List.mem_range.1 hk
    exact ⟨l[k], List.getElem_mem hl, by rw [← h k _ (List.getElem?_eq_getElem hl)]; exact hp⟩
  · rintro ⟨x, hx, hq⟩
    obtain ⟨k, hk⟩ := List.getElem?_of_mem hx
    exact ⟨k, List.mem_range.2 (List.getElem?_eq_some_iff.1 hk).1, by rw [h k x hk]; exact hq⟩
end Go.Proofs.Ytpbffbhebdcpbaa

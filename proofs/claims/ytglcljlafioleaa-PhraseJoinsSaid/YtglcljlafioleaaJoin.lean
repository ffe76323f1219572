/-
  Phrases joined: the texts, one more each time, and what they come to. Plain words.
-/
import Derived.Test.YtglcljlafioleaaStructs
set_option linter.unusedVariables false
namespace Go.Proofs.Ytglcljlafioleaa
open Go.RowKit

/-- the text that a phrase adds to those that are known -/
def joinT (known : List (List Nat)) (p : Nat × Nat) : List Nat := known.getD p.1 [] ++ [p.2]
/-- the texts known behind k phrases -/
def joinK (ps : List (Nat × Nat)) : Nat → List (List Nat)
  | 0 => [[]]
  | k + 1 => joinK ps k ++ [joinT (joinK ps k) (ps.getD k (0, 0))]
/-- all texts so far, one behind the other -/
def joinO (ps : List (Nat × Nat)) : Nat → List Nat
  | 0 => []
  | k + 1 => joinO ps k ++ joinT (joinK ps k) (ps.getD k (0, 0))
theorem joinK_len (ps : List (Nat × Nat)) : ∀ k, (joinK ps k).length = k + 1
  | 0 => rfl
  | k + 1 => by rw [joinK, List.length_append, joinK_len ps k]; rfl
/-- the sizes that phrase.Join reckons ahead -/
def joinS (ps : List (Nat × Nat)) (k : Nat) : List Nat := (joinK ps k).map List.length
theorem joinS_zero (ps : List (Nat × Nat)) : joinS ps 0 = [0] := rfl
theorem getD_lenJ (l : List (List Nat)) (i : Nat) : (l.map List.length).getD i 0 = (l.getD i []).length := by
  rw [List.getD_eq_getElem?_getD, List.getElem?_map, List.getD_eq_getElem?_getD]
  cases l[i]? <;> rfl
theorem joinT_len (known : List (List Nat)) (p : Nat × Nat) : (joinT known p).length = (known.map List.length).getD p.1 0 + 1 := by
  unfold joinT
  rw [List.length_append, getD_lenJ]; rfl
theorem joinS_next (ps : List (Nat × Nat)) (k : Nat) : joinS ps (k + 1) = joinS ps k ++ [(joinS ps k).getD (ps.getD k (0, 0)).1 0 + 1] := by
  unfold joinS
  rw [joinK, List.map_append, List.map_cons, List.map_nil, joinT_len]
theorem joinO_len (ps : List (Nat × Nat)) (k : Nat) : (joinO ps (k + 1)).length = (joinO ps k).length + (joinS ps (k + 1)).getD (k + 1) 0 := by
  rw [joinO, List.length_append, joinS_next, joinT_len]
  congr 1
  generalize hx : (joinS ps k).getD (ps.getD k (0, 0)).1 0 + 1 = x
  have h1 : (List.map List.length (joinK ps k)).getD (ps.getD k (0, 0)).1 0 + 1 = x := hx
  rw [h1]
  have hl : (joinS ps k).length = k + 1 := by unfold joinS; rw [List.length_map, joinK_len]
  generalize joinS ps k = l at *
  rw [← hl]
  simp
/-- each text is at most one longer than the one that it is built on -/
theorem joinK_le (ps : List (Nat × Nat)) : ∀ k, ∀ t ∈ joinK ps k, t.length ≤ k
  | 0, t, h => by rw [List.mem_singleton.1 h]; exact Nat.le_refl _
  | k + 1, t, h => by
    rw [joinK] at h
    rcases List.mem_append.1 h with h | h
    · exact Nat.le_succ_of_le (joinK_le ps k t h)
    · rw [List.mem_singleton.1 h]
      unfold joinT
      rw [List.length_append, List.getD_eq_getElem?_getD]
      rcases hx : (joinK ps k)[(ps.getD k (0, 0)).1]? with _ | x
      · simp
      · have := joinK_le ps k x (List.mem_of_getElem? hx)
        simpa using this
/-- what is told of phrases: too many, one that is not there yet, too long -/
def joinE (zs : List (Int × Int)) (ps : List (Nat × Nat)) : Int :=
  if 64 < zs.length then 1 else if (List.range zs.length).any (fun i => decide ((zs.getD i (0, 0)).1 < 0) || decide ((i : Int) < (zs.getD i (0, 0)).1)) = true then 2
  else if 64 < (joinO ps zs.length).length then 1 else 0
end Go.Proofs.Ytglcljlafioleaa

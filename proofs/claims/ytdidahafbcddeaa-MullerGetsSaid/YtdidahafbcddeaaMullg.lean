/-
  muller.Get: degree by degree. Plain words.
-/
import Derived.Test.YtdidahafbcddeaaMullq
import Derived.Test.YtdidahafbcddeaaVotes
import Derived.Test.YtdidahafbcddeaaOwnr
set_option linter.unusedVariables false
namespace Go.Proofs.Ytdidahafbcddeaa
open Go.RowKit

/-- which products the votes of one degree give -/
def alS (ps : List Nat) (M d : Nat) (l : List Bool) : List Bool := ps.map fun p => decide (degU p = d) && voteB l p M
theorem alS_len (ps : List Nat) (M d : Nat) (l : List Bool) : (alS ps M d l).length = ps.length := by simp [alS]
theorem alS_at {ps : List Nat} {i p : Nat} (M d : Nat) (l : List Bool) (h : ps[i]? = some p) : (alS ps M d l)[i]? = some (decide (degU p = d) && voteB l p M) := by unfold alS; rw [List.getElem?_map, h]; rfl
/-- the data behind i products -/
def midD (dt al : List Bool) (n i : Nat) : List Bool := (List.range n).map fun j => dt.getD j false || (decide (j < i) && al.getD j false)
theorem midD_len (dt al : List Bool) (n i : Nat) : (midD dt al n i).length = n := by simp [midD]
theorem midD_at (dt al : List Bool) {n j : Nat} (i : Nat) (h : j < n) : (midD dt al n i)[j]? = some (dt.getD j false || (decide (j < i) && al.getD j false)) := by unfold midD; rw [List.getElem?_map, List.getElem?_range h]; rfl
theorem midD_zero (dt al : List Bool) (n : Nat) (h : dt.length = n) : midD dt al n 0 = dt := by
  unfold midD
  apply List.ext_getElem (by simp [h])
  intro i h1 h2
  simp [List.getD_eq_getElem?_getD, h2]
theorem midD_next (dt al : List Bool) (n i : Nat) (v : Bool) (hv : (dt.getD i false || al.getD i false) = v) : (midD dt al n i).set i v = midD dt al n (i + 1) := by
  unfold midD
  apply List.ext_getElem (by simp)
  intro j h1 h2
  rw [List.getElem_set]
  simp only [List.getElem_map, List.getElem_range]
  by_cases e : i = j
  · subst e
    rw [if_pos rfl, ← hv]
    simp
  · rw [if_neg e]
    by_cases e2 : j < i
    · have : j < i + 1 := by omega
      simp [e2, this]
    · have : ¬ j < i + 1 := by omega
      simp [e2, this]
theorem midD_same (dt al : List Bool) (n i : Nat) (hv : al.getD i false = false) : midD dt al n (i + 1) = midD dt al n i := by
  unfold midD
  apply List.map_congr_left
  intro j _
  by_cases e : i = j
  · subst e; rw [hv]; simp
  · by_cases e2 : j < i
    · have : j < i + 1 := by omega
      simp [e2, this]
    · have : ¬ j < i + 1 := by omega
      simp [e2, this]
/-- l with the first k products that al names summed up -/
def addA (l al : List Bool) (ps : List Nat) (M k : Nat) : List Bool := (List.range M).map fun x => l.getD x false != oddK al ps x k
theorem addA_len (l al : List Bool) (ps : List Nat) (M k : Nat) : (addA l al ps M k).length = M := by simp [addA]
theorem addA_zero (l al : List Bool) (ps : List Nat) (M : Nat) (h : l.length = M) : addA l al ps M 0 = l := by
  unfold addA
  apply List.ext_getElem (by simp [h])
  intro i h1 h2
  simp [oddK, List.getD_eq_getElem?_getD, h2]
theorem addA_next {l al : List Bool} {ps : List Nat} {M k p : Nat} {b : Bool} (hb : al[k]? = some b) (hp : ps[k]? = some p) : addA l al ps M (k + 1) = if b then addL (addA l al ps M k) p M else addA l al ps M k := by
  cases b
  · simp only [Bool.false_eq_true, if_false]
    unfold addA
    apply List.map_congr_left
    intro x _
    rw [oddK, List.getD_eq_getElem?_getD, List.getD_eq_getElem?_getD, hb]; simp
  · rw [if_pos rfl]
    unfold addA addL
    apply List.ext_getElem (by simp)
    intro i h1 h2
    have hi : i < M := by simpa using h1
    simp only [List.getElem_map, List.getElem_range, List.length_map, List.length_range]
    rw [oddK, List.getD_eq_getElem?_getD, List.getD_eq_getElem?_getD, hb, List.getD_eq_getElem?_getD, hp]
    simp [List.getD_eq_getElem?_getD, hi]
theorem addA_at {l al : List Bool} {ps : List Nat} {M n x : Nat} {y z : Bool} (hl : l[x]? = some y) (hz : (mulL al ps M n)[x]? = some z) (hx : x < M) : (addA l al ps M n)[x]? = some (y != z) := by
  unfold mulL at hz
  rw [List.getElem?_map, List.getElem?_range hx] at hz
  unfold addA
  rw [List.getElem?_map, List.getElem?_range hx]
  injection hz with hz
  show some (l.getD x false != oddK al ps x n) = _
  have hz2 : oddK al ps x n = z := hz
  rw [List.getD_eq_getElem?_getD, hl, hz2]
  rfl
/-- what stands behind t degrees -/
def stS (ps : List Nat) (r M : Nat) (l0 : List Bool) : Nat → List Bool × List Bool
  | 0 => (l0, List.replicate ps.length false)
  | t + 1 => (addA (stS ps r M l0 t).1 (alS ps M (r - t) (stS ps r M l0 t).1) ps M ps.length, midD (stS ps r M l0 t).2 (alS ps M (r - t) (stS ps r M l0 t).1) ps.length ps.length)
theorem stS_len {ps : List Nat} {r M : Nat} {l0 : List Bool} (h : l0.length = M) : ∀ t, (stS ps r M l0 t).1.length = M ∧ (stS ps r M l0 t).2.length = ps.length
  | 0 => ⟨h, by simp [stS]⟩
  | t + 1 => ⟨by rw [stS]; exact addA_len _ _ _ _ _, by rw [stS]; exact midD_len _ _ _ _⟩
theorem stS_deg {ps : List Nat} {r M : Nat} {l0 : List Bool} : ∀ t, t ≤ r + 1 → ∀ i p, ps[i]? = some p → (stS ps r M l0 t).2.getD i false = true → r < degU p + t
  | 0, _, i, p, hp, h => by
    rw [stS, List.getD_eq_getElem?_getD, List.getElem?_replicate] at h
    split at h <;> simp at h
  | t + 1, ht, i, p, hp, h => by
    rw [stS, List.getD_eq_getElem?_getD, midD_at _ _ _ (List.getElem?_eq_some_iff.1 hp).1] at h
    simp only [Option.getD_some, Bool.or_eq_true, Bool.and_eq_true, decide_eq_true_eq] at h
    rcases h with h | ⟨_, h⟩
    · have := stS_deg t (by omega) i p hp h
      omega
    · rw [List.getD_eq_getElem?_getD, alS_at _ _ _ hp] at h
      simp at h
      omega
/-- the rows that muller.Get keeps: bits, products, data -/
def GS (w wr : World) (adl : Addr) (M cl : Nat) (lt : List Bool) (adp : Addr) (n : Nat) (ps : List Nat) (gd : Nat) (dt : List Bool) : Prop :=
  Own wr w.heap.size 4 (.slice (some adl) M cl) (vb lt) ∧ Reads wr wr.heap.size (some adp) n (vn .i64 ps) ∧ Own wr w.heap.size 4 (.slice (some ⟨gd, 0, none⟩) n n) (vb dt) ∧ Below w.heap.size w wr ∧ adl.block ≠ gd ∧ adl.block ≠ adp.block ∧ gd ≠ adp.block
section
variable {w wr w' : World} {adl adp : Addr} {M cl n gd : Nat} {lt dt : List Bool} {ps : List Nat}
theorem GS.below (h : GS w wr adl M cl lt adp n ps gd dt) (hb : Below wr.heap.size wr w') : GS w w' adl M cl lt adp n ps gd dt := by
  obtain ⟨h1, h2, h3, h4, h5⟩ := h
  exact ⟨h1.below hb (Nat.le_refl _), (h2.below hb).more hb.size, h3.below hb (Nat.le_refl _), h4.trans (hb.mono h4.size), h5⟩
theorem GS.setL {l' : List Bool} (h : GS w wr adl M cl lt adp n ps gd dt) (ho : Own w' w.heap.size 4 (.slice (some adl) M cl) (vb l')) (hg : wr.grownBy w' (some adl.block)) : GS w w' adl M cl l' adp n ps gd dt := by
  obtain ⟨h1, h2, h3, h4, h5, h6, h7⟩ := h
  refine ⟨ho, (h2.keepNe hg (Nat.le_refl _) (fun ad e e2 => ?_)).more hg.size, h3.kept hg (.inr fun e => ?_), h4.grown hg h4.size (fun j hj => ?_), h5, h6, h7⟩
  · injection e with e; subst e; injection e2 with e2; exact h6 e2
  · injection e with e; exact h5 e.symm
  · injection hj with hj
    have := (Own.lt h1 adl.block rfl).1
    omega
theorem Reads.setFar {w : World} {B n : Nat} {A : Option Addr} {xs : List Value} (h : Reads w B A n xs) (p : Addr) (u : Value) (hne : ∀ ad, A = some ad → ad.block ≠ p.block) : Reads (w.setCell p u) B A n xs := by
  refine ⟨h.len, fun hn0 => ?_⟩
  obtain ⟨ad', e, hb', hc'⟩ := h.cells hn0
  refine ⟨ad', e, hb', fun j u hu => (World.cell?_setCell_other w _ _ _ (fun e2 => ?_)).trans (hc' j u hu)⟩
  have e3 := congrArg Addr.block e2
  rw [block_of_add] at e3
  exact hne ad' e (by first | exact e3 | exact e3.symm)
theorem GS.setD (h : GS w wr adl M cl lt adp n ps gd dt) (i : Nat) (b : Bool) : GS w (wr.setCell ⟨gd, i, none⟩ (.bool b)) adl M cl lt adp n ps gd (dt.set i b) := by
  obtain ⟨h1, h2, h3, h4, h5, h6, h7⟩ := h
  have hs := h3.set i (.bool b)
  have hb := h3.setBelow (Nat.le_refl _) i (.bool b)
  rw [vb_set, add_row] at hs
  rw [add_row] at hb
  refine ⟨h1.setOther ⟨gd, i, none⟩ _ (fun e => ?_), ?_, hs, h4.trans hb, h5, h6, h7⟩
  · injection e with e; exact h5 e
  · have := h2.setFar ⟨gd, i, none⟩ (.bool b) (fun ad e => by injection e with e; subst e; exact fun e2 => h7 e2.symm)
    simpa using this
end
end Go.Proofs.Ytdidahafbcddeaa

/-
  The table of alpha.best: a box with two cells, a row of rows, the rows.
-/
import Derived.Test.YtglcljlafioleaaAlsum
import Derived.Test.YtglcljlafioleaaStore
import Derived.Test.YtglcljlafioleaaStep
set_option linter.unusedVariables false
namespace Go.Proofs.Ytglcljlafioleaa
open Go.RowKit

def rowV (gr : Nat → Nat) (m k : Nat) : List Value := (List.range m).map fun i => if i < k then .slice (some ⟨gr i, 0, none⟩) m m else .slice none 0 0
def cellV (f : Nat → Nat → Nat) (m i : Nat) : List Value := vn .i64 ((List.range m).map (f i))
theorem rowV_len (gr : Nat → Nat) (m k : Nat) : (rowV gr m k).length = m := by simp [rowV]
theorem rowV_at {gr : Nat → Nat} {m k i : Nat} (hi : i < m) (hk : i < k) : (rowV gr m k)[i]? = some (.slice (some ⟨gr i, 0, none⟩) m m) := by
  unfold rowV; rw [List.getElem?_map, List.getElem?_range hi]; simp [hk]
theorem rowV_set (gr : Nat → Nat) (m k g : Nat) (hk : k < m) : (rowV gr m k).set k (.slice (some ⟨g, 0, none⟩) m m) = rowV (fun i => if i = k then g else gr i) m (k + 1) := by
  apply List.ext_getElem?
  intro i
  rcases Nat.lt_or_ge i m with hi | hi
  · by_cases e : i = k
    · subst e
      rw [List.getElem?_set_self (by rw [rowV_len]; exact hi), rowV_at hi (by omega)]
      simp
    · rw [List.getElem?_set_ne (by omega)]
      unfold rowV
      rw [List.getElem?_map, List.getElem?_map, List.getElem?_range hi]
      simp only [Option.map_some, if_neg e]
      by_cases h : i < k
      · rw [if_pos h, if_pos (by omega)]
      · rw [if_neg h, if_neg (by omega)]
  · rw [List.getElem?_eq_none (by rw [List.length_set, rowV_len]; exact hi), List.getElem?_eq_none (by rw [rowV_len]; exact hi)]
theorem cellV_at {f : Nat → Nat → Nat} {m i j : Nat} (hj : j < m) : (cellV f m i)[j]? = some (.int .i64 (f i j : Int)) := by
  unfold cellV vn; rw [List.getElem?_map, List.getElem?_map, List.getElem?_range hj]; rfl
def setF (f : Nat → Nat → Nat) (i j x : Nat) : Nat → Nat → Nat := fun a b => if a = i ∧ b = j then x else f a b
theorem cellV_set (f : Nat → Nat → Nat) (m i j x : Nat) (hj : j < m) : (cellV f m i).set j (.int .i64 (x : Int)) = cellV (setF f i j x) m i := by
  apply List.ext_getElem?
  intro b
  have hl : ∀ f : Nat → Nat → Nat, (cellV f m i).length = m := fun f => by simp [cellV, vn]
  rcases Nat.lt_or_ge b m with hb | hb
  · by_cases e : b = j
    · subst e
      rw [List.getElem?_set_self (by rw [hl]; exact hb), cellV_at hb]
      simp [setF]
    · rw [List.getElem?_set_ne (by omega), cellV_at hb, cellV_at hb]
      simp [setF, e]
  · rw [List.getElem?_eq_none (by rw [List.length_set, hl]; exact hb), List.getElem?_eq_none (by rw [hl]; exact hb)]
theorem cellV_other (f : Nat → Nat → Nat) (m i j x a : Nat) (h : a ≠ i) : cellV (setF f i j x) m a = cellV f m a := by
  unfold cellV setF; simp [h]
theorem cellV_zero (m i : Nat) : List.replicate m (Value.int .i64 0) = cellV (fun _ _ => 0) m i := by
  unfold cellV vn; simp [List.map_const']
theorem rowV_zero (gr : Nat → Nat) (m : Nat) : List.replicate m (Value.slice none 0 0) = rowV gr m 0 := by
  unfold rowV; simp [List.map_const']

/-- the box at hb, the row of rows at b0, the first k of the rows -/
structure TabK (w : World) (b0 hb m k : Nat) (gr : Nat → Nat) (V : Value) (f : Nat → Nat → Nat) : Prop where
  box : w.heap[hb]? = some (.cells #[V, .slice (some ⟨b0, 0, none⟩) m m] 74 (0, 0))
  col : Own w b0 34 (.slice (some ⟨b0, 0, none⟩) m m) (rowV gr m k)
  row : ∀ i, i < k → Own w (hb + 1) 2 (.slice (some ⟨gr i, 0, none⟩) m m) (cellV f m i)
  ord : b0 < hb
  inj : ∀ i j, i < k → j < k → gr i = gr j → i = j
section
variable {w w' : World} {b0 hb m k : Nat} {gr : Nat → Nat} {V : Value} {f : Nat → Nat → Nat}
theorem TabK.lt (h : TabK w b0 hb m k gr V f) : hb < w.heap.size := by
  rcases Nat.lt_or_ge hb w.heap.size with h1 | h1
  · exact h1
  · have := h.box; rw [Array.getElem?_eq_none h1] at this; cases this
theorem TabK.same (h : TabK w b0 hb m k gr V f) (hB : Below w.heap.size w w') : TabK w' b0 hb m k gr V f :=
  ⟨(hB.block _ h.lt).trans h.box, h.col.below hB (Nat.le_refl _), fun i hi => (h.row i hi).below hB (Nat.le_refl _), h.ord, h.inj⟩
theorem TabK.drew (h : TabK w b0 hb m k gr V f) : TabK w.drew b0 hb m k gr V f := h.same ((Below.refl _ _).drew)
theorem TabK.drewN (h : TabK w b0 hb m k gr V f) (n : Nat) : TabK (w.drewN n) b0 hb m k gr V f := h.same (below_drewN (Below.refl _ _) n)
theorem TabK.wts (h : TabK w b0 hb m k gr V f) : w.cell? ⟨hb, 0, none⟩ = some V := by simp [World.cell?, h.box]
theorem TabK.tab (h : TabK w b0 hb m k gr V f) : w.cell? ⟨hb, 1, none⟩ = some (.slice (some ⟨b0, 0, none⟩) m m) := by simp [World.cell?, h.box]
theorem TabK.rowAt (h : TabK w b0 hb m k gr V f) {i : Nat} (hi : i < m) (hk : i < k) : w.cell? ⟨b0, i, none⟩ = some (.slice (some ⟨gr i, 0, none⟩) m m) := by
  have := h.col.cell (j := i) (rowV_at hi hk)
  rwa [add_row] at this
theorem TabK.cellAt (h : TabK w b0 hb m k gr V f) {i j : Nat} (hj : j < m) (hk : i < k) : w.cell? ⟨gr i, j, none⟩ = some (.int .i64 (f i j : Int)) := by
  have := (h.row i hk).cell (j := j) (cellV_at hj)
  rwa [add_row] at this
theorem TabK.free (h : TabK w b0 hb m k gr V f) {i : Nat} (j : Nat) (hk : i < k) : w.frozen? ⟨gr i, j, none⟩ = false := by
  have := (h.row i hk).frozenAt j
  rwa [add_row] at this
theorem TabK.colFree (h : TabK w b0 hb m k gr V f) (j : Nat) : w.frozen? ⟨b0, j, none⟩ = false := by
  have := h.col.frozenAt j
  rwa [add_row] at this
theorem TabK.ge (h : TabK w b0 hb m k gr V f) {i : Nat} (hk : i < k) : hb + 1 ≤ gr i := ((h.row i hk).lt (gr i) rfl).1
theorem TabK.put (h : TabK w b0 hb m k gr V f) {i j : Nat} (x : Nat) (hj : j < m) (hk : i < k) : TabK (w.setCell ⟨gr i, j, none⟩ (.int .i64 (x : Int))) b0 hb m k gr V (setF f i j x) := by
  have hge := h.ge hk
  have hord := h.ord
  refine ⟨?_, h.col.setOther _ _ (by simp [Value.ownBlock]; omega), fun a ha => ?_, h.ord, h.inj⟩
  · rw [Below.heap_setCell w _ _ _ (by show hb ≠ gr i; omega)]; exact h.box
  · by_cases e : a = i
    · subst e
      have := (h.row a hk).set j (.int .i64 (x : Int))
      rw [add_row, cellV_set f m a j x hj] at this
      exact this
    · rw [cellV_other f m i j x a e]
      exact (h.row a ha).setOther _ _ (by simp [Value.ownBlock]; intro e2; exact e (h.inj a i ha hk e2))
/-- a new row is laid and hung in -/
theorem TabK.hang (h : TabK w b0 hb m k gr V f) (hk : k < m) {g : Nat} (ho : Own w' (hb + 1) 2 (.slice (some ⟨g, 0, none⟩) m m) (cellV f m k)) (hB : Below w.heap.size w w') (hg : w.heap.size ≤ g) :
    TabK (w'.setCell ⟨b0, k, none⟩ (.slice (some ⟨g, 0, none⟩) m m)) b0 hb m (k + 1) (fun i => if i = k then g else gr i) V f := by
  have h2 := h.same hB
  have hlt := h.lt
  have hord := h.ord
  refine ⟨?_, ?_, fun i hi => ?_, h.ord, fun i j hi hj e => ?_⟩
  · rw [Below.heap_setCell w' _ _ _ (by show hb ≠ b0; omega)]; exact h2.box
  · have := h2.col.set k (.slice (some ⟨g, 0, none⟩) m m)
    rw [add_row, rowV_set gr m k g hk] at this
    exact this
  · by_cases e : i = k
    · subst e
      simp only [if_true]
      exact ho.setOther _ _ (by simp [Value.ownBlock]; omega)
    · simp only [if_neg e]
      have := h2.ge (i := i) (by omega)
      exact (h2.row i (by omega)).setOther _ _ (by simp [Value.ownBlock]; omega)
  · have ho2 := fun i (hi : i < k) => ((h.row i hi).lt (gr i) rfl).2
    by_cases e1 : i = k
    · by_cases e2 : j = k
      · omega
      · have := ho2 j (by omega)
        simp only [if_pos e1, if_neg e2] at e
        omega
    · have h3 := ho2 i (by omega)
      by_cases e2 : j = k
      · simp only [if_neg e1, if_pos e2] at e
        omega
      · simp only [if_neg e1, if_neg e2] at e
        exact h.inj i j (by omega) (by omega) e
end
end Go.Proofs.Ytglcljlafioleaa

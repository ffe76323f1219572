/-
  A table that the call makes: a row of rows, the rows; no box.
-/
import Derived.Test.YtglcljlafioleaaDisc
set_option linter.unusedVariables false
namespace Go.Proofs.Ytglcljlafioleaa
open Go.RowKit

/-- the row of rows at b0, the first k of the rows -/
structure TabO (w : World) (b0 r m k : Nat) (gr : Nat → Nat) (f : Nat → Nat → Nat) : Prop where
  col : Own w b0 22 (.slice (some ⟨b0, 0, none⟩) m m) (rowD gr r m k)
  row : ∀ i, i < k → Own w (b0 + 1) 5 (.slice (some ⟨gr i, 0, none⟩) r r) (cellD f r i)
  inj : ∀ i j, i < k → j < k → gr i = gr j → i = j
section
variable {w w' : World} {b0 r m k : Nat} {gr : Nat → Nat} {f : Nat → Nat → Nat}
theorem TabO.lt (h : TabO w b0 r m k gr f) : b0 < w.heap.size := (h.col.lt b0 rfl).2
theorem TabO.same (h : TabO w b0 r m k gr f) (hB : Below w.heap.size w w') : TabO w' b0 r m k gr f :=
  ⟨h.col.below hB (Nat.le_refl _), fun i hi => (h.row i hi).below hB (Nat.le_refl _), h.inj⟩
theorem TabO.drew (h : TabO w b0 r m k gr f) : TabO w.drew b0 r m k gr f := h.same ((Below.refl _ _).drew)
theorem TabO.drewN (h : TabO w b0 r m k gr f) (n : Nat) : TabO (w.drewN n) b0 r m k gr f := h.same (below_drewN (Below.refl _ _) n)
theorem TabO.rowAt (h : TabO w b0 r m k gr f) {i : Nat} (hi : i < m) (hk : i < k) : w.cell? ⟨b0, i, none⟩ = some (.slice (some ⟨gr i, 0, none⟩) r r) := by
  have := h.col.cell (j := i) (rowD_at hi hk)
  rwa [add_row] at this
theorem TabO.cellAt (h : TabO w b0 r m k gr f) {i j : Nat} (hj : j < r) (hk : i < k) : w.cell? ⟨gr i, j, none⟩ = some (.int .u8 (f i j : Int)) := by
  have := (h.row i hk).cell (j := j) (cellD_at hj)
  rwa [add_row] at this
theorem TabO.free (h : TabO w b0 r m k gr f) {i : Nat} (j : Nat) (hk : i < k) : w.frozen? ⟨gr i, j, none⟩ = false := by
  have := (h.row i hk).frozenAt j
  rwa [add_row] at this
theorem TabO.colFree (h : TabO w b0 r m k gr f) (j : Nat) : w.frozen? ⟨b0, j, none⟩ = false := by
  have := h.col.frozenAt j
  rwa [add_row] at this
theorem TabO.ge (h : TabO w b0 r m k gr f) {i : Nat} (hk : i < k) : b0 + 1 ≤ gr i := ((h.row i hk).lt (gr i) rfl).1
theorem TabO.put (h : TabO w b0 r m k gr f) {i j : Nat} (x : Nat) (hj : j < r) (hk : i < k) : TabO (w.setCell ⟨gr i, j, none⟩ (.int .u8 (x : Int))) b0 r m k gr (setD f i j x) := by
  have hge := h.ge hk
  refine ⟨h.col.setOther _ _ (by simp [Value.ownBlock]; omega), fun a ha => ?_, h.inj⟩
  · by_cases e : a = i
    · subst e
      have := (h.row a hk).set j (.int .u8 (x : Int))
      rw [add_row, cellD_set f r a j x hj] at this
      exact this
    · rw [cellD_other f r i j x a e]
      exact (h.row a ha).setOther _ _ (by simp [Value.ownBlock]; intro e2; exact e (h.inj a i ha hk e2))
/-- a new row is laid and hung in -/
theorem TabO.hang (h : TabO w b0 r m k gr f) (hk : k < m) {g : Nat} (ho : Own w' (b0 + 1) 5 (.slice (some ⟨g, 0, none⟩) r r) (cellD f r k)) (hB : Below w.heap.size w w') (hg : w.heap.size ≤ g) :
    TabO (w'.setCell ⟨b0, k, none⟩ (.slice (some ⟨g, 0, none⟩) r r)) b0 r m (k + 1) (fun i => if i = k then g else gr i) f := by
  have h2 := h.same hB
  have hlt := h.lt
  refine ⟨?_, fun i hi => ?_, fun i j hi hj e => ?_⟩
  · have := h2.col.set k (.slice (some ⟨g, 0, none⟩) r r)
    rw [add_row, rowD_set gr r m k g hk] at this
    exact this
  · by_cases e : i = k
    · subst e
      simp only [if_true]
      exact ho.setOther _ _ (by simp [Value.ownBlock]; omega)
    · simp only [if_neg e]
      have := h2.ge (i := i) (by omega)
      exact (h2.row i (by omega)).setOther _ _ (by simp [Value.ownBlock]; omega)
  · have ho2 := fun i (hi : i < k) => ((h.row i hi).lt (gr i) rfl).2
    by_cases e1 : i = k
    · by_cases e2 : j = k
      · omega
      · have := ho2 j (by omega)
        simp only [if_pos e1, if_neg e2] at e
        omega
    · have h3 := ho2 i (by omega)
      by_cases e2 : j = k
      · simp only [if_neg e1, if_pos e2] at e
        omega
      · simp only [if_neg e1, if_neg e2] at e
        exact h.inj i j (by omega) (by omega) e
end
end Go.Proofs.Ytglcljlafioleaa

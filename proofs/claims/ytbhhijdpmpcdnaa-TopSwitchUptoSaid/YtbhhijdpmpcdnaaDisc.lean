/-
  The discs of stripe.Array: a box with two cells, a row of rows, the rows.
-/
import Derived.Test.YtbhhijdpmpcdnaaProg
import Derived.Test.YtbhhijdpmpcdnaaOwn
import Derived.Test.YtbhhijdpmpcdnaaQuiet
import Derived.Test.YtbhhijdpmpcdnaaStore
import Derived.Test.YtbhhijdpmpcdnaaStep
set_option linter.unusedVariables false
namespace Go.Proofs.Ytbhhijdpmpcdnaa
open Go.RowKit

def rowD (gr : Nat → Nat) (r m k : Nat) : List Value := (List.range m).map fun i => if i < k then .slice (some ⟨gr i, 0, none⟩) r r else .slice none 0 0
def cellD (f : Nat → Nat → Nat) (m i : Nat) : List Value := vn .u8 ((List.range m).map (f i))
theorem rowD_len (gr : Nat → Nat) (r m k : Nat) : (rowD gr r m k).length = m := by simp [rowD]
theorem rowD_at {gr : Nat → Nat} {r m k i : Nat} (hi : i < m) (hk : i < k) : (rowD gr r m k)[i]? = some (.slice (some ⟨gr i, 0, none⟩) r r) := by
  unfold rowD; rw [List.getElem?_map, List.getElem?_range hi]; simp [hk]
theorem rowD_set (gr : Nat → Nat) (r m k g : Nat) (hk : k < m) : (rowD gr r m k).set k (.slice (some ⟨g, 0, none⟩) r r) = rowD (fun i => if i = k then g else gr i) r m (k + 1) := by
  apply List.ext_getElem?
  intro i
  rcases Nat.lt_or_ge i m with hi | hi
  · by_cases e : i = k
    · subst e
      rw [List.getElem?_set_self (by rw [rowD_len]; exact hi), rowD_at hi (by omega)]
      simp
    · rw [List.getElem?_set_ne (by omega)]
      unfold rowD
      rw [List.getElem?_map, List.getElem?_map, List.getElem?_range hi]
      simp only [Option.map_some, if_neg e]
      by_cases h : i < k
      · rw [if_pos h, if_pos (by omega)]
      · rw [if_neg h, if_neg (by omega)]
  · rw [List.getElem?_eq_none (by rw [List.length_set, rowD_len]; exact hi), List.getElem?_eq_none (by rw [rowD_len]; exact hi)]
theorem cellD_at {f : Nat → Nat → Nat} {m i j : Nat} (hj : j < m) : (cellD f m i)[j]? = some (.int .u8 (f i j : Int)) := by
  unfold cellD vn; rw [List.getElem?_map, List.getElem?_map, List.getElem?_range hj]; rfl
def setD (f : Nat → Nat → Nat) (i j x : Nat) : Nat → Nat → Nat := fun a b => if a = i ∧ b = j then x else f a b
theorem cellD_set (f : Nat → Nat → Nat) (m i j x : Nat) (hj : j < m) : (cellD f m i).set j (.int .u8 (x : Int)) = cellD (setD f i j x) m i := by
  apply List.ext_getElem?
  intro b
  have hl : ∀ f : Nat → Nat → Nat, (cellD f m i).length = m := fun f => by simp [cellD, vn]
  rcases Nat.lt_or_ge b m with hb | hb
  · by_cases e : b = j
    · subst e
      rw [List.getElem?_set_self (by rw [hl]; exact hb), cellD_at hb]
      simp [setD]
    · rw [List.getElem?_set_ne (by omega), cellD_at hb, cellD_at hb]
      simp [setD, e]
  · rw [List.getElem?_eq_none (by rw [List.length_set, hl]; exact hb), List.getElem?_eq_none (by rw [hl]; exact hb)]
theorem cellD_other (f : Nat → Nat → Nat) (m i j x a : Nat) (h : a ≠ i) : cellD (setD f i j x) m a = cellD f m a := by
  unfold cellD setD; simp [h]
theorem cellD_zero (m i : Nat) : List.replicate m (Value.int .u8 0) = cellD (fun _ _ => 0) m i := by
  unfold cellD vn; simp [List.map_const']
theorem rowD_zero (gr : Nat → Nat) (r m : Nat) : List.replicate m (Value.slice none 0 0) = rowD gr r m 0 := by
  unfold rowD; simp [List.map_const']

/-- the box at hb, the row of rows at b0, the first k of the rows -/
structure TabD (w : World) (b0 hb r m k : Nat) (gr : Nat → Nat) (V : Value) (f : Nat → Nat → Nat) : Prop where
  box : w.heap[hb]? = some (.cells #[.slice (some ⟨b0, 0, none⟩) m m, V] 66 (0, 0))
  col : Own w b0 33 (.slice (some ⟨b0, 0, none⟩) m m) (rowD gr r m k)
  row : ∀ i, i < k → Own w (hb + 1) 5 (.slice (some ⟨gr i, 0, none⟩) r r) (cellD f r i)
  ord : b0 < hb
  inj : ∀ i j, i < k → j < k → gr i = gr j → i = j
section
variable {w w' : World} {b0 hb r m k : Nat} {gr : Nat → Nat} {V : Value} {f : Nat → Nat → Nat}
theorem TabD.lt (h : TabD w b0 hb r m k gr V f) : hb < w.heap.size := by
  rcases Nat.lt_or_ge hb w.heap.size with h1 | h1
  · exact h1
  · have := h.box; rw [Array.getElem?_eq_none h1] at this; cases this
theorem TabD.same (h : TabD w b0 hb r m k gr V f) (hB : Below w.heap.size w w') : TabD w' b0 hb r m k gr V f :=
  ⟨(hB.block _ h.lt).trans h.box, h.col.below hB (Nat.le_refl _), fun i hi => (h.row i hi).below hB (Nat.le_refl _), h.ord, h.inj⟩
theorem TabD.drew (h : TabD w b0 hb r m k gr V f) : TabD w.drew b0 hb r m k gr V f := h.same ((Below.refl _ _).drew)
theorem TabD.drewN (h : TabD w b0 hb r m k gr V f) (n : Nat) : TabD (w.drewN n) b0 hb r m k gr V f := h.same (below_drewN (Below.refl _ _) n)
theorem TabD.lost (h : TabD w b0 hb r m k gr V f) : w.cell? ⟨hb, 1, none⟩ = some V := by simp [World.cell?, h.box]
theorem TabD.tab (h : TabD w b0 hb r m k gr V f) : w.cell? ⟨hb, 0, none⟩ = some (.slice (some ⟨b0, 0, none⟩) m m) := by simp [World.cell?, h.box]
theorem TabD.rowAt (h : TabD w b0 hb r m k gr V f) {i : Nat} (hi : i < m) (hk : i < k) : w.cell? ⟨b0, i, none⟩ = some (.slice (some ⟨gr i, 0, none⟩) r r) := by
  have := h.col.cell (j := i) (rowD_at hi hk)
  rwa [add_row] at this
theorem TabD.cellAt (h : TabD w b0 hb r m k gr V f) {i j : Nat} (hj : j < r) (hk : i < k) : w.cell? ⟨gr i, j, none⟩ = some (.int .u8 (f i j : Int)) := by
  have := (h.row i hk).cell (j := j) (cellD_at hj)
  rwa [add_row] at this
theorem TabD.free (h : TabD w b0 hb r m k gr V f) {i : Nat} (j : Nat) (hk : i < k) : w.frozen? ⟨gr i, j, none⟩ = false := by
  have := (h.row i hk).frozenAt j
  rwa [add_row] at this
theorem TabD.colFree (h : TabD w b0 hb r m k gr V f) (j : Nat) : w.frozen? ⟨b0, j, none⟩ = false := by
  have := h.col.frozenAt j
  rwa [add_row] at this
theorem TabD.ge (h : TabD w b0 hb r m k gr V f) {i : Nat} (hk : i < k) : hb + 1 ≤ gr i := ((h.row i hk).lt (gr i) rfl).1
theorem TabD.put (h : TabD w b0 hb r m k gr V f) {i j : Nat} (x : Nat) (hj : j < r) (hk : i < k) : TabD (w.setCell ⟨gr i, j, none⟩ (.int .u8 (x : Int))) b0 hb r m k gr V (setD f i j x) := by
  have hge := h.ge hk
  have hord := h.ord
  refine ⟨?_, h.col.setOther _ _ (by simp [Value.ownBlock]; omega), fun a ha => ?_, h.ord, h.inj⟩
  · rw [Below.heap_setCell w _ _ _ (by show hb ≠ gr i; omega)]; exact h.box
  · by_cases e : a = i
    · subst e
      have := (h.row a hk).set j (.int .u8 (x : Int))
      rw [add_row, cellD_set f r a j x hj] at this
      exact this
    · rw [cellD_other f r i j x a e]
      exact (h.row a ha).setOther _ _ (by simp [Value.ownBlock]; intro e2; exact e (h.inj a i ha hk e2))
/-- a new row is laid and hung in -/
theorem TabD.hang (h : TabD w b0 hb r m k gr V f) (hk : k < m) {g : Nat} (ho : Own w' (hb + 1) 5 (.slice (some ⟨g, 0, none⟩) r r) (cellD f r k)) (hB : Below w.heap.size w w') (hg : w.heap.size ≤ g) :
    TabD (w'.setCell ⟨b0, k, none⟩ (.slice (some ⟨g, 0, none⟩) r r)) b0 hb r m (k + 1) (fun i => if i = k then g else gr i) V f := by
  have h2 := h.same hB
  have hlt := h.lt
  have hord := h.ord
  refine ⟨?_, ?_, fun i hi => ?_, h.ord, fun i j hi hj e => ?_⟩
  · rw [Below.heap_setCell w' _ _ _ (by show hb ≠ b0; omega)]; exact h2.box
  · have := h2.col.set k (.slice (some ⟨g, 0, none⟩) r r)
    rw [add_row, rowD_set gr r m k g hk] at this
    exact this
  · by_cases e : i = k
    · subst e
      simp only [if_true]
      exact ho.setOther _ _ (by simp [Value.ownBlock]; omega)
    · simp only [if_neg e]
      have := h2.ge (i := i) (by omega)
      exact (h2.row i (by omega)).setOther _ _ (by simp [Value.ownBlock]; omega)
  · have ho2 := fun i (hi : i < k) => ((h.row i hi).lt (gr i) rfl).2
    by_cases e1 : i = k
    · by_cases e2 : j = k
      · omega
      · have := ho2 j (by omega)
        simp only [if_pos e1, if_neg e2] at e
        omega
    · have h3 := ho2 i (by omega)
      by_cases e2 : j = k
      · simp only [if_neg e1, if_pos e2] at e
        omega
      · simp only [if_neg e1, if_neg e2] at e
        exact h.inj i j (by omega) (by omega) e
end
end Go.Proofs.Ytbhhijdpmpcdnaa

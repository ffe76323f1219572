/-
  Storing into a row that the call made. Over any program.
-/
import Derived.Test.YtdidahafbcddeaaOwn
import Derived.Laws.OwnMore
set_option linter.unusedVariables false
namespace Go.Proofs.Ytdidahafbcddeaa
open Go.RowKit

theorem add_row (g j : Nat) : (⟨g, 0, none⟩ : Addr).add j = ⟨g, j, none⟩ := by
  unfold Addr.add
  split
  · rename_i h; subst h; rfl
  · simp

theorem Reads.addr {w : World} {B n : Nat} {A : Option Addr} {xs : List Value} (h : Reads w B A n xs) (hk : 0 < n) : ∃ ad, A = some ad := by
  obtain ⟨ad, e, _⟩ := h.cells hk; exact ⟨ad, e⟩
section
variable {w : World} {base : Nat} {E : TypeId} {ad : Addr} {n c : Nat} {xs : List Value}
theorem Own.addr (h : Own w base E (.slice (some ad) n c) xs) : ∃ g, ad = ⟨g, 0, none⟩ ∧ base ≤ g ∧ g < w.heap.size := by
  rcases h.2 with ⟨e, h0⟩ | ⟨g, cap, cur, e, hb, hh, hnc, hc2, hs, ht⟩
  · simp at e
  · have hA : ad = ⟨g, 0, none⟩ := by injection e with e; injection e
    subst hA
    refine ⟨g, rfl, hb, ?_⟩
    rcases Nat.lt_or_ge g w.heap.size with hlt | hge
    · exact hlt
    · rw [Array.getElem?_eq_none hge] at hh; cases hh
theorem Own.row (h : Own w base E (.slice (some ad) n c) xs) : w.ownsRow base E 1 (.slice (some ad) n c) n xs := by
  have := h.len
  unfold Own at h
  rwa [this] at h
theorem Own.cellAt (h : Own w base E (.slice (some ad) n c) xs) {j : Nat} (hj : j < n) : w.cell? (ad.add j) = xs[j]? := by
  obtain ⟨g, rfl, _, _⟩ := h.addr
  rw [add_row]
  exact World.ownsRow.cellAt h.row j (by omega)
theorem Own.cell {u : Value} {j : Nat} (h : Own w base E (.slice (some ad) n c) xs) (hu : xs[j]? = some u) : w.cell? (ad.add j) = some u := by
  have hj : j < n := by
    have h1 := h.len
    have h2 := (List.getElem?_eq_some_iff.1 hu).1
    omega
  rw [h.cellAt hj, hu]
theorem Own.frozenAt (h : Own w base E (.slice (some ad) n c) xs) (j : Nat) : w.frozen? (ad.add j) = false := by
  obtain ⟨g, rfl, _, _⟩ := h.addr
  rw [add_row]
  exact World.ownsRow.frozenAt h.row j
theorem Own.set (h : Own w base E (.slice (some ad) n c) xs) (j : Nat) (u : Value) : Own (w.setCell (ad.add j) u) base E (.slice (some ad) n c) (xs.set j u) := by
  have hl := h.len
  obtain ⟨g, rfl, _, _⟩ := h.addr
  rw [add_row]
  have := (World.ownsRow.stored h.row j u).1
  unfold Own
  rw [List.length_set, hl]
  exact this
theorem Own.setBelow {B : Nat} (h : Own w base E (.slice (some ad) n c) xs) (hB : B ≤ base) (j : Nat) (u : Value) : Below B w (w.setCell (ad.add j) u) := by
  obtain ⟨g, rfl, hb, _⟩ := h.addr
  rw [add_row]
  exact (Below.refl B w).setCell (by show B ≤ g; omega) u
/-- another row is kept -/
theorem Own.setOther {w : World} {v : Value} (h : Own w base E v xs) (p : Addr) (u : Value) (hne : v.ownBlock ≠ some p.block) : Own (w.setCell p u) base E v xs := by
  refine ⟨h.1, ?_⟩
  rcases h.2 with h2 | ⟨g, cap, cur, h1, h2, h3, h4⟩
  · exact .inl h2
  · refine .inr ⟨g, cap, cur, h1, h2, ?_, h4⟩
    rw [Below.heap_setCell w p u g (by intro e; apply hne; subst h1; subst e; rfl)]
    exact h3
end

/-- filled by f up to i, z from there on -/
def fillTo {α : Type} (f : Nat → α) (z : α) (n i : Nat) : List α := (List.range n).map fun j => if j < i then f j else z
section
variable {α : Type} {f : Nat → α} {z : α} {n i : Nat}
theorem fillTo_zero (f : Nat → α) (z : α) (n : Nat) : fillTo f z n 0 = List.replicate n z := by
  apply List.ext_getElem?
  intro j
  unfold fillTo
  rw [List.getElem?_map, List.getElem?_replicate]
  by_cases hj : j < n
  · rw [List.getElem?_range hj]; simp [hj]
  · rw [List.getElem?_eq_none (by simpa using hj)]; simp [hj]
theorem fillTo_full (f : Nat → α) (z : α) (n : Nat) : fillTo f z n n = (List.range n).map f := by
  unfold fillTo
  apply List.map_congr_left
  intro j hj
  rw [if_pos (List.mem_range.1 hj)]
theorem fillTo_len : (fillTo f z n i).length = n := by simp [fillTo]
theorem fillTo_next (hi : i < n) : (fillTo f z n i).set i (f i) = fillTo f z n (i + 1) := by
  apply List.ext_getElem?
  intro j
  rw [List.getElem?_set]
  unfold fillTo
  rw [List.length_map, List.length_range]
  by_cases hj : j < n
  · rw [List.getElem?_map, List.getElem?_map, List.getElem?_range hj]
    simp only [Option.map_some]
    by_cases e : i = j
    · subst e; rw [if_pos rfl, if_pos hi, if_pos (by omega)]
    · rw [if_neg e]
      by_cases h2 : j < i
      · rw [if_pos h2, if_pos (by omega)]
      · rw [if_neg h2, if_neg (by omega)]
  · rw [if_neg (by omega), List.getElem?_eq_none (by simpa using hj), List.getElem?_eq_none (by simpa using hj)]
theorem fillTo_at (hi : i < n) {k : Nat} : (fillTo f z n k)[i]? = some (if i < k then f i else z) := by
  unfold fillTo; rw [List.getElem?_map, List.getElem?_range hi]; rfl
end
theorem filt_next (p : Nat → Bool) (j : Nat) : (List.range (j + 1)).filter p = (List.range j).filter p ++ if p j then [j] else [] := by
  rw [List.range_succ, List.filter_append]
  by_cases h : p j <;> simp [h]
theorem filt_len (p : Nat → Bool) (j : Nat) : ((List.range j).filter p).length ≤ j := by
  have := List.length_filter_le p (List.range j); simpa using this
theorem vb_set (l : List Bool) (j : Nat) (b : Bool) : (vb l).set j (.bool b) = vb (l.set j b) := by unfold vb; rw [List.map_set]
theorem vi_set (k : IntKind) (l : List Int) (j : Nat) (b : Int) : (vi k l).set j (.int k b) = vi k (l.set j b) := by unfold vi; rw [List.map_set]
theorem vn_set (k : IntKind) (l : List Nat) (j : Nat) (b : Nat) : (vn k l).set j (.int k (b : Int)) = vn k (l.set j b) := by unfold vn; rw [List.map_set]
end Go.Proofs.Ytdidahafbcddeaa

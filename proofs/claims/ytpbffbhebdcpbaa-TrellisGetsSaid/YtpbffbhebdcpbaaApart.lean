/-
  A slice of slices that the call builds by append, apart from another row that it builds too; over any program.
-/
import Derived.Test.YtpbffbhebdcpbaaOwnr
import Derived.Test.YtpbffbhebdcpbaaStep
import Derived.Deep.RegionHeld3
set_option linter.unusedVariables false
namespace Go.Proofs.Ytpbffbhebdcpbaa
open Go.RowKit

/-- the slices vs and the row v that holds them lie apart from the block g -/
def AwayG (w : World) (v : Value) (vs : List Value) (g : Option Nat) : Prop :=
  ∀ b, g = some b → v.ownBlock ≠ some b ∧ b < w.heap.size ∧ ∀ (k : Nat) (A : Addr) (n c : Nat), vs[k]? = some (.slice (some A) n c) → A.block ≠ b
def OwnG (w : World) (base : Nat) (E : TypeId) (v : Value) (xss : List (List Value)) (g : Option Nat) : Prop := ∃ vs, Own w base E v vs ∧ RowOf w v vs xss ∧ AwayG w v vs g
section
variable {w w' : World} {base : Nat} {E : TypeId} {v v' : Value} {xss : List (List Value)} {g g' : Option Nat}
theorem OwnG.ownR (h : OwnG w base E v xss g) : OwnR w base E v xss := by
  obtain ⟨vs, ho, hr, _⟩ := h
  exact ⟨vs, ho, hr⟩
theorem OwnR.away (h : OwnR w base E v xss) : OwnG w base E v xss none := by
  obtain ⟨vs, ho, hr⟩ := h
  exact ⟨vs, ho, hr, fun b e => by cases e⟩
theorem AwayG.at_ {vs : List Value} (ha : AwayG w v vs g) {k n c : Nat} {A : Addr} (hk : vs[k]? = some (.slice (some A) n c)) : g ≠ some A.block := by
  intro e
  exact (ha _ e).2.2 k A n c hk rfl
theorem RowOf.keptNe {vs : List Value} (hr : RowOf w v vs xss) (hg : w.grownBy w' g) (ha : AwayG w v vs g) : RowOf w' v vs xss := by
  refine ⟨hr.1, fun k xs hk => ?_⟩
  obtain ⟨A, n, c, h1, h2, h3, h4⟩ := hr.2 k xs hk
  refine ⟨A, n, c, h1, (h2.keepNe hg (Nat.le_refl _) (fun ad e => ?_)).more hg.size, h3, fun ad e => ⟨(h4 ad e).1, Nat.lt_of_lt_of_le (h4 ad e).2 hg.size⟩⟩
  subst e
  exact ha.at_ h1
theorem OwnG.kept (h : OwnG w base E v xss g) (hg : w.grownBy w' g) (hat : g' = g ∨ g' = some w.heap.size) (hlt : ∀ b, g' = some b → b < w'.heap.size) : OwnG w' base E v xss g' := by
  obtain ⟨vs, ho, hr, ha⟩ := h
  have hne : v.ownBlock = none ∨ v.ownBlock ≠ g := by
    cases hv : v.ownBlock with
    | none => exact .inl rfl
    | some q =>
      refine .inr fun e => ?_
      exact (ha q e.symm).1 hv
  refine ⟨vs, ho.kept hg hne, hr.keptNe hg ha, fun b e => ⟨?_, hlt b e, fun k A n c hk => ?_⟩⟩
  · rcases hat with h1 | h1
    · exact (ha b (by rw [← h1]; exact e)).1
    · intro e2
      have h2 := (Own.lt ho b e2).2
      rw [h1] at e
      injection e with e
      omega
  · rcases hat with h1 | h1
    · exact (ha b (by rw [← h1]; exact e)).2.2 k A n c hk
    · intro e2
      rw [h1] at e
      injection e with e
      have hk2 : k < xss.length := by rw [← hr.1]; exact (List.getElem?_eq_some_iff.1 hk).1
      obtain ⟨A', n', c', h1', _, _, h4⟩ := hr.2 k _ (List.getElem?_eq_getElem hk2)
      rw [hk] at h1'
      injection h1' with h1'
      injection h1' with h5 h6 h7
      have := (h4 A h5.symm).2
      omega
theorem OwnG.same (h : OwnG w base E v xss g) (hb : Below w.heap.size w w') : OwnG w' base E v xss g := by
  obtain ⟨vs, ho, hr, ha⟩ := h
  have h2 := OwnR.below ⟨vs, ho, hr⟩ hb
  refine ⟨vs, ho.below hb (Nat.le_refl _), ?_, fun b e => ⟨(ha b e).1, Nat.lt_of_lt_of_le (ha b e).2.1 hb.size, (ha b e).2.2⟩⟩
  refine ⟨hr.1, fun k xs hk => ?_⟩
  obtain ⟨A, n, c, h1, h2, h3, h4⟩ := hr.2 k xs hk
  exact ⟨A, n, c, h1, (h2.below hb).more hb.size, h3, fun ad e => ⟨(h4 ad e).1, Nat.lt_of_lt_of_le (h4 ad e).2 hb.size⟩⟩
theorem away_push {vs : List Value} {A : Option Addr} {n c : Nat} {xs : List Value} (hrow : RowOf w v vs xss) (ha : AwayG w v vs g) (hr : Reads w w.heap.size A n xs) (hn : n ≤ maxLen) (hA : ∀ ad, A = some ad → v.ownBlock ≠ some ad.block) (hA2 : ∀ ad, A = some ad → ad.block < w.heap.size)
    (hA3 : ∀ ad, A = some ad → g ≠ some ad.block)
    (ho : Own w' base E v' (vs ++ [Value.slice A n c])) (hg : w.grownBy w' v.ownBlock) (hat : v'.ownBlock = v.ownBlock ∨ v'.ownBlock = some (w.heap.size + 1)) : OwnG w' base E v' (xss ++ [xs]) g := by
  obtain ⟨hl, hr0⟩ := hrow
  have hsz : w.heap.size ≤ w'.heap.size := hg.size
  refine ⟨vs ++ [Value.slice A n c], ho, ⟨by simp [hl], fun k xs' hk => ?_⟩, fun b e => ⟨?_, Nat.lt_of_lt_of_le (ha b e).2.1 hsz, fun k A1 n1 c1 hk => ?_⟩⟩
  · rcases Nat.lt_or_ge k xss.length with h1 | h1
    · rw [List.getElem?_append_left h1] at hk
      obtain ⟨A', n', c', e1, e2, e3, e4⟩ := hr0 k xs' hk
      refine ⟨A', n', c', by rw [List.getElem?_append_left (by omega)]; exact e1, (e2.keepNe hg (Nat.le_refl _) (fun ad ha => (e4 ad ha).1)).more hsz, e3, fun ad ha => ⟨?_, Nat.lt_of_lt_of_le (e4 ad ha).2 hsz⟩⟩
      rcases hat with h2 | h2
      · rw [h2]; exact (e4 ad ha).1
      · rw [h2]; intro e; injection e with e; have := (e4 ad ha).2; omega
    · rw [List.getElem?_append_right h1] at hk
      have h0 : k - xss.length = 0 := by
        rcases Nat.eq_zero_or_pos (k - xss.length) with h0 | h0
        · exact h0
        · rw [List.getElem?_eq_none (by simp; omega)] at hk; simp at hk
      rw [h0] at hk
      simp at hk
      subst hk
      refine ⟨A, n, c, by rw [List.getElem?_append_right (by omega), hl, h0]; rfl, (hr.keepNe hg (Nat.le_refl _) hA).more hsz, hn, fun ad ha => ⟨?_, Nat.lt_of_lt_of_le (hA2 ad ha) hsz⟩⟩
      rcases hat with h2 | h2
      · rw [h2]; exact hA ad ha
      · rw [h2]; intro e; injection e with e; have := hA2 ad ha; omega
  · rcases hat with h2 | h2
    · rw [h2]; exact (ha b e).1
    · rw [h2]; intro e2; injection e2 with e2; have := (ha b e).2.1; omega
  · rcases Nat.lt_or_ge k vs.length with h1 | h1
    · rw [List.getElem?_append_left h1] at hk
      exact (ha b e).2.2 k A1 n1 c1 hk
    · rw [List.getElem?_append_right h1] at hk
      have h0 : k - vs.length = 0 := by
        rcases Nat.eq_zero_or_pos (k - vs.length) with h0 | h0
        · exact h0
        · rw [List.getElem?_eq_none (by simp; omega)] at hk; simp at hk
      rw [h0] at hk
      simp at hk
      obtain ⟨e1, _, _⟩ := hk
      intro e2
      exact hA3 A1 e1 (by rw [e2]; exact e)
end
theorem cell_row_new (w : World) (cs : Array Value) (T : TypeId) (j : Nat) (u : Value) (h : cs[j]? = some u) : (w.alloc (.cells cs T)).cell? ⟨w.heap.size, j, none⟩ = some u := (cell_of_row _ _ j cs T (0, 0) (heap_alloc_new w _)).trans h
/-- a region keeps what it reads -/
theorem keep3 {B : Nat} {w0 W : World} {a1 a2 a3 : Addr} {v1 v2 v3 : Value} (hb : Below B w0 W) (h1 : a1.block < B) (c1 : w0.cell? a1 = some v1) (h2 : a2.block < B) (c2 : w0.cell? a2 = some v2) (h3 : a3.block < B) (c3 : w0.cell? a3 = some v3) :
    Below B w0 W ∧ W.cell? a1 = some v1 ∧ W.cell? a2 = some v2 ∧ W.cell? a3 = some v3 := ⟨hb, (hb.cell h1).trans c1, (hb.cell h2).trans c2, (hb.cell h3).trans c3⟩
theorem Below.alloc0 {B : Nat} {w0 W : World} (h : Below B w0 W) (hB : B ≤ w0.heap.size) (o : Obj) : Below B w0 (W.alloc o) := h.alloc (Nat.le_trans hB h.size) o
theorem Below.grown0 {B : Nat} {w0 W W' : World} {row : Option Nat} (h : Below B w0 W) (hB : B ≤ w0.heap.size) (hg : W.grownBy W' row) (hr : ∀ k, row = some k → B ≤ k) : Below B w0 W' := h.grown hg (Nat.le_trans hB h.size) hr
/-- an empty slice that was just laid -/
theorem own_empty (w : World) (E : TypeId) (base : Nat) (hB : base ≤ w.heap.size) : Own (w.alloc (.cells #[] E)) base E (.slice (some ⟨w.heap.size, 0, none⟩) 0 0) [] := Own.built w #[] 0 rfl (by unfold maxLen; omega) hB
theorem own_empty2 (w : World) (E : TypeId) (base : Nat) (o : Obj) (hB : base ≤ w.heap.size) : Own ((w.alloc o).alloc (.cells #[] E)) base E (.slice (some ⟨w.heap.size + 1, 0, none⟩) 0 0) [] := by
  have := own_empty (w.alloc o) E base (by simp; omega)
  simpa using this
theorem reads_oneV (w : World) (E : TypeId) (u : Value) : Reads (w.alloc (.cells #[u] E)) (w.heap.size + 1) (some ⟨w.heap.size, 0, none⟩) 1 [u] := reads_lay w #[u] E 1 rfl
theorem reads_one2 {w w' : World} (o : Obj) (E : TypeId) (u : Value) {row : Option Nat} (hg : ((w.alloc o).alloc (.cells #[u] E)).drew.grownBy w' row) (hr : row = some w.heap.size) : Reads w' (w.heap.size + 2) (some ⟨w.heap.size + 1, 0, none⟩) 1 [u] := by
  have hs : (w.alloc o).heap.size = w.heap.size + 1 := by simp
  have := reads_oneV (w.alloc o) E u
  rw [hs] at this
  exact this.drew.keepNe hg (by simp) (fun ad e e2 => by injection e with e; subst e; rw [hr] at e2; injection e2 with e2; simp at e2)
theorem reads_one3 {w w' : World} (o : Obj) (E : TypeId) (u : Value) {row : Option Nat} (hg : ((w.alloc (.cells #[u] E)).alloc o).drew.grownBy w' row) (hr : row = some (w.heap.size + 1)) : Reads w' (w.heap.size + 1) (some ⟨w.heap.size, 0, none⟩) 1 [u] := by
  have := (reads_oneV w E u).alloc (by simp) o
  exact this.drew.keepNe hg (by simp) (fun ad e e2 => by injection e with e; subst e; rw [hr] at e2; injection e2 with e2; simp at e2)
end Go.Proofs.Ytpbffbhebdcpbaa

/-
  Appending to a slice that the call made itself, element by element or slice by slice; what is owned reads as a list. Over any program.
-/
import Derived.Test.YtdidahafbcddeaaBase
import Derived.Maps.AppendAt
import Derived.Deep.AppendLies
import Derived.OwnWalk
set_option linter.unusedVariables false
namespace Go.Proofs.Ytdidahafbcddeaa
open Go.RowKit

/-- T is the slice type whose elements, of type E, have one cell, the zero value z and so many bytes. -/
structure Elem (P : Program) (T E : TypeId) (z : Value) (bytes : Nat) : Prop where
  under : P.underlying T = some (.slice E)
  info : ∃ i, P.info? E = some i ∧ i.zero = some z ∧ i.size = 1 ∧ i.bytes = bytes
  one : z.cells = #[z]
theorem Elem.mk' {P : Program} {T E : TypeId} {z : Value} {bytes : Nat} (hu : P.underlying T = some (.slice E)) (h : (P.info? E).map (fun i => (i.zero, i.size, i.bytes)) = some (some z, 1, bytes)) (h1 : z.cells = #[z]) : Elem P T E z bytes :=
  ⟨hu, by obtain ⟨i, a, b, c, d⟩ := info_parts h; exact ⟨i, a, b, c, d⟩, h1⟩

/-- The slice value holds xs in a row that the call made (its block is from base on), or it is nil. -/
def Own (w : World) (base : Nat) (E : TypeId) (v : Value) (xs : List Value) : Prop := w.ownsRow base E 1 v xs.length xs

section
variable {P : Program} {w w' : World} {base : Nat} {E T : TypeId} {v z : Value} {xs : List Value} {bytes : Nat}
theorem Own.nil (w : World) (base : Nat) (E : TypeId) : Own w base E (.slice none 0 0) [] := World.ownsRow_nil _ _ _ _
theorem Own.form (h : Own w base E v xs) : ∃ A c, v = .slice A xs.length c := by
  rcases h.2 with ⟨rfl, h0⟩ | ⟨g, cap, cur, rfl, _⟩
  · exact ⟨none, 0, by rw [h0]⟩
  · exact ⟨_, _, rfl⟩
theorem Own.alloc (h : Own w base E v xs) (o : Obj) : Own (w.alloc o) base E v xs := World.ownsRow.alloc h o
theorem Own.drew (h : Own w base E v xs) : Own w.drew base E v xs := World.ownsRow.drew h
theorem Own.drewN (h : Own w base E v xs) (n : Nat) : Own (w.drewN n) base E v xs := by
  refine ⟨h.1, ?_⟩
  rcases h.2 with h2 | ⟨g, cap, cur, h1, h2, h3, h4⟩
  · exact .inl h2
  · exact .inr ⟨g, cap, cur, h1, h2, h3, h4⟩
theorem Own.lt (h : Own w base E v xs) : ∀ k, v.ownBlock = some k → base ≤ k ∧ k < w.heap.size := World.ownsRow.lt h
/-- Only blocks from the heap's old size on, and none of the old ones, were written. -/
theorem Own.below (h : Own w base E v xs) {B : Nat} (hb : Below B w w') (hB : w.heap.size ≤ B) : Own w' base E v xs := by
  refine ⟨h.1, ?_⟩
  rcases h.2 with h2 | ⟨g, cap, cur, h1, h2, h3, h4⟩
  · exact .inl h2
  · refine .inr ⟨g, cap, cur, h1, h2, ?_, h4⟩
    have hg : g < w.heap.size := by
      rcases Nat.lt_or_ge g w.heap.size with hlt | hge
      · exact hlt
      · rw [Array.getElem?_eq_none hge] at h3; cases h3
    rw [hb.block g (by omega)]; exact h3
theorem Own.kept (h : Own w base E v xs) {row : Option Nat} (hg : w.grownBy w' row) (hne : v.ownBlock = none ∨ v.ownBlock ≠ row) : Own w' base E v xs := World.ownsRow.kept h hg hne
theorem Own.low (h : Own w base E v xs) {B : Nat} (hB : B ≤ base) : Own w B E v xs := by
  refine ⟨h.1, ?_⟩
  rcases h.2 with h2 | ⟨g, cap, cur, h1, h2, h3, h4⟩
  · exact .inl h2
  · exact .inr ⟨g, cap, cur, h1, by omega, h3, h4⟩
theorem Own.reads {A : Option Addr} {n c : Nat} (h : Own w base E (.slice A n c) xs) : Reads w w.heap.size A n xs := by
  obtain ⟨A', c', e⟩ := h.form
  have hn : n = xs.length := by injection e
  subst hn
  refine ⟨rfl, fun hn => ?_⟩
  rcases h.2 with ⟨e', h0⟩ | ⟨g, cap, cur, e', hb, hh, hnc, hc2, hs, ht⟩
  · omega
  · have hA : A = some ⟨g, 0, none⟩ := by injection e'
    subst hA
    refine ⟨_, rfl, ?_, World.ownsRow.cells h (g := g) rfl⟩
    rcases Nat.lt_or_ge g w.heap.size with hlt | hge
    · exact hlt
    · rw [Array.getElem?_eq_none hge] at hh; cases hh
/-- A row that was just built. -/
theorem Own.built (w : World) (cs : Array Value) (n : Nat) (hn : cs.size = n) (hm : n ≤ maxLen) (hB : base ≤ w.heap.size) : Own (w.alloc (.cells cs E)) base E (.slice (some ⟨w.heap.size, 0, none⟩) n n) cs.toList := by
  subst hn
  refine ⟨by simp, .inr ⟨w.heap.size, cs.size, cs, by simp, hB, heap_alloc_new w _, by simp, hm, by simp, by rw [List.take_of_length_le (by simp)]⟩⟩
theorem grown_below {row : Option Nat} (hg : w.grownBy w' row) (hB : base ≤ w.heap.size) (hr : ∀ k, row = some k → base ≤ k) : Below base w w' := (Below.refl base w).grown hg hB hr

/-- append(v, u): u was just laid into a block of its own. -/
theorem app1 {ops : Array Oper} {rest : List Oper} {o : Oper} {a : Act} {Q : Exit → Act → World → Prop} (el : Elem P T E z bytes) (hgd : o.guard = none) (s x : Operand)
    (ho : o.op = .call { callee := .builtin .append, args := #[s, x], argTypes := #[T, T] })
    (hs : a.eval s = v) (hown : Own w base E v xs) (u : Value) (E' : TypeId) (hx : a.eval x = .slice (some ⟨w.heap.size, 0, none⟩) 1 1) (h1 : u.oneCell' = true)
    (h63 : xs.length + 1 ≤ maxLen) (hbytes : (xs.length + 1) * bytes ≤ 140737488355328) (hbase : base ≤ w.heap.size)
    (h : ∀ v' w', Own w' base E v' (xs ++ [u]) → Below base w w' → w.grownBy w' v.ownBlock → (v'.ownBlock = v.ownBlock ∨ v'.ownBlock = some (w.heap.size + 1)) → wpList P ops Q rest (a.put o.dst v') w') : wpList P ops Q (o :: rest) a (w.alloc (.cells #[u] E')) := by
  obtain ⟨i, hi, hz, hsize, hby⟩ := el.info
  refine wpList_append_own_at (w.alloc (.cells #[u] E')) hgd s x T ho base E i z 1 bytes el.under hi hz hsize hby (by rw [el.one]; rfl) (by omega) v xs.length xs hs (World.ownsRow.alloc hown _) ⟨w.heap.size, 0, none⟩ 1 1 [u] hx rfl
    (cell_one_new _ _ _) (by intro y hy; simp at hy; subst hy; exact h1) h63 hbytes (by simp; omega) ?_
  intro v' w' hown' hgrow _ hat
  have hg : w.grownBy w' v.ownBlock := by
    have h2 := World.grownBy_alloc w (.cells #[u] E') v.ownBlock
    refine ⟨hgrow.os.trans h2.os, hgrow.tape.trans h2.tape, hgrow.output.trans h2.output, Nat.le_trans h2.size hgrow.size, fun k hk hne => ?_⟩
    rw [hgrow.block k (by simp; omega) hne, h2.block k hk hne]
  refine h v' w' ?_ (grown_below hg hbase (fun k hk => (Own.lt hown k hk).1)) hg (by simpa using hat)
  unfold Own
  rw [List.length_append]
  exact hown'

/-- append(v, src...): the source reads as news; it may be nil. -/
theorem appN {ops : Array Oper} {rest : List Oper} {o : Oper} {a : Act} {Q : Exit → Act → World → Prop} (el : Elem P T E z bytes) (hgd : o.guard = none) (s x : Operand)
    (ho : o.op = .call { callee := .builtin .append, args := #[s, x], argTypes := #[T, T] })
    (hs : a.eval s = v) (hown : Own w base E v xs) {A : Option Addr} {m c B : Nat} {news : List Value} (hx : a.eval x = .slice A m c) (hr : Reads w B A m news) (h1 : ∀ u ∈ news, u.oneCell' = true)
    (h63 : xs.length + m ≤ maxLen) (hbytes : (xs.length + m) * bytes ≤ 140737488355328) (hbase : base ≤ w.heap.size)
    (h : ∀ v' w', Own w' base E v' (xs ++ news) → Below base w w' → w.grownBy w' v.ownBlock → (v'.ownBlock = v.ownBlock ∨ v'.ownBlock = some w.heap.size) → wpList P ops Q rest (a.put o.dst v') w') : wpList P ops Q (o :: rest) a w := by
  obtain ⟨i, hi, hz, hsize, hby⟩ := el.info
  rcases A with _ | ad
  · have hm : m = 0 := by
      rcases Nat.eq_zero_or_pos m with h0 | h0
      · exact h0
      · obtain ⟨ad, e, _⟩ := hr.cells h0; cases e
    subst hm
    have hn : news = [] := List.eq_nil_of_length_eq_zero hr.len
    subst hn
    have hrun : (Builtin.append_ #[T, T] o.type #[v, .slice none 0 c]).run P w = .ok v w := by
      rcases hown.2 with ⟨rfl, h0⟩ | ⟨g, cap, cur, rfl, _, _, hnc, _⟩
      · have hx0 : xs = [] := List.eq_nil_of_length_eq_zero h0
        subst hx0
        simp [Builtin.append_, run_underlying el.under, sizeOf, typeInfo, hi, Builtin.lenOf, Builtin.firstCells]
      · simp [Builtin.append_, run_underlying el.under, sizeOf, typeInfo, hi, Builtin.lenOf, Builtin.firstCells, hnc, storeCells]
    refine wpList_plain hgd fun K hK => ?_
    unfold Oper.wp execOp
    simp only [ho, resolve, invoke, builtin, Sem.run_bind, Sem.run_pure, Result.andThen_ok, List.map_toArray, List.map_cons, List.map_nil, hs, hx, hrun]
    exact hK _ _ (h v w (by simpa using hown) (Below.refl _ _) (World.grownBy.refl w _) (.inl rfl))
  · have hc : ∀ j u, news[j]? = some u → w.cell? (ad.add j) = some u := by
      intro j u hu
      rcases Nat.eq_zero_or_pos m with h0 | h0
      · have hn : news = [] := List.eq_nil_of_length_eq_zero (hr.len.trans h0)
        subst hn; simp at hu
      · obtain ⟨ad', e, _, hc⟩ := hr.cells h0
        injection e with e; subst e
        exact hc j u hu
    refine wpList_append_own_at w hgd s x T ho base E i z 1 bytes el.under hi hz hsize hby (by rw [el.one]; rfl) (by omega) v xs.length xs hs hown ad m c news hx (by rw [hr.len]; omega)
      hc h1 h63 hbytes hbase ?_
    intro v' w' hown' hgrow _ hat
    refine h v' w' ?_ (grown_below hgrow hbase (fun k hk => (Own.lt hown k hk).1)) hgrow hat
    unfold Own
    rw [List.length_append, hr.len]
    exact hown'

/-- make([]T, n), n a variable. -/
theorem mkN {ops : Array Oper} {rest : List Oper} {o : Oper} {a : Act} {Q : Exit → Act → World → Prop} (el : Elem P T E z bytes) (hgd : o.guard = none) (l c : Operand) (ho : o.op = Op.makeSlice T l c)
    (base : Nat) {kl kc : IntKind} {L C : Int} (n : Nat) (hl : a.eval l = .int kl L) (hc : a.eval c = .int kc C) (hL : L = (n : Int)) (hC : C = (n : Int)) (b2 : bytes * n ≤ 281474976710656) (b3 : n ≤ maxLen) (b4 : base ≤ w.heap.size)
    (h : ∀ w', Own w' base E (.slice (some ⟨w.heap.size, 0, none⟩) n n) (List.replicate n z) → Below w.heap.size w w' → w.heap.size < w'.heap.size → wpList P ops Q rest (a.put o.dst (.slice (some ⟨w.heap.size, 0, none⟩) n n)) w') : wpList P ops Q (o :: rest) a w := by
  obtain ⟨i, hi, hz, hsize, hby⟩ := el.info
  subst hby
  refine wpList_make_full w hgd l c T ho base E i z 1 el.under hi hz hsize kl kc L C n hl hc hL hC b2 b3 b4 ?_
  intro w' h1 h2
  have hcells : (madeCells z.cells (n * 1)).toList = List.replicate n z := by
    rw [el.one]
    apply List.ext_getElem?
    intro j
    simp only [madeCells, Array.toList_map, List.getElem?_map, List.getElem?_replicate]
    by_cases hj : j < n
    · simp [hj, Nat.mod_one]
    · simp [hj]
  rw [hcells] at h1
  refine h w' (by unfold Own; simpa using h1) (grown_below h2 (Nat.le_refl _) (fun k hk => by cases hk)) ?_
  have := Own.lt (w := w') (v := .slice (some ⟨w.heap.size, 0, none⟩) n n) (xs := List.replicate n z) (base := base) (E := E) (by unfold Own; simpa using h1) w.heap.size rfl
  exact this.2
end

/-- returned a slice that the call made, with the elements xs -/
def RetS (w : World) (E : TypeId) (xs : List Value) (e : Ending) (w' : World) : Prop :=
  ∃ A n c, e = .returned (.slice A n c) ∧ Own w' w.heap.size E (.slice A n c) xs ∧ Below w.heap.size w w'
/-- returned a slice that reads as xs; nothing that was there has turned -/
def RetR (w : World) (xs : List Value) (e : Ending) (w' : World) : Prop :=
  ∃ A n c, e = .returned (.slice A n c) ∧ Reads w' w'.heap.size A n xs ∧ n ≤ maxLen ∧ Below w.heap.size w w'
theorem Own.len {w : World} {base : Nat} {E : TypeId} {A : Option Addr} {n c : Nat} {xs : List Value} (h : Own w base E (.slice A n c) xs) : xs.length = n := h.reads.len
theorem RetS.reads {w w' : World} {E : TypeId} {xs : List Value} {e : Ending} (h : RetS w E xs e w') (hm : xs.length ≤ maxLen) : RetR w xs e w' := by
  obtain ⟨A, n, c, he, ho, hb⟩ := h
  exact ⟨A, n, c, he, ho.reads, by rw [← ho.len]; exact hm, hb⟩
/-- a row that was just laid reads as its cells -/
theorem reads_lay (w : World) (cs : Array Value) (T : TypeId) (n : Nat) (h : cs.size = n) : Reads (w.alloc (.cells cs T)) (w.heap.size + 1) (some ⟨w.heap.size, 0, none⟩) n cs.toList := by
  refine ⟨by simpa using h, fun _ => ⟨_, rfl, by simp, ?_⟩⟩
  intro j u hu
  have hh : (w.alloc (.cells cs T)).heap[w.heap.size]? = some (.cells cs T (0, 0)) := heap_alloc_new w _
  have := cell_of_row (w.alloc (.cells cs T)) w.heap.size j cs T (0, 0) hh
  have e : (⟨w.heap.size, 0, none⟩ : Addr).add j = ⟨w.heap.size, j, none⟩ := by unfold Addr.add; split <;> simp_all
  rw [e, this]
  simpa using hu
/-- returned v; nothing that was there has turned -/
def RetB (w : World) (v : Value) (e : Ending) (w' : World) : Prop := e = .returned v ∧ Below w.heap.size w w'
end Go.Proofs.Ytdidahafbcddeaa

/-
  Appending in a region that draws its order; make with a variable length as an equation. Over any program.
-/
import Derived.Test.YtdidahafbcddeaaOwn
import Derived.Deep.AppendLies
import Derived.Maps.AppendAt
import Derived.Deep.OwnRows
import Derived.Deep.RegionWith
import Derived.Deep.RegionLaw
set_option linter.unusedVariables false
namespace Go.Proofs.Ytdidahafbcddeaa
open Go.RowKit

section
variable {P : Program} {w w' : World} {base : Nat} {E T : TypeId} {v z : Value} {xs : List Value} {bytes : Nat}
theorem step_appN {ops : Array Oper} {o : Oper} {a : Act} {K : Act → World → Prop} {Q : Exit → Act → World → Prop} {EE : Prop} (el : Elem P T E z bytes) (hgd : o.guard = none) (s x : Operand)
    (ho : o.op = .call { callee := .builtin .append, args := #[s, x], argTypes := #[T, T] })
    (hs : a.eval s = v) (hown : Own w base E v xs) {A : Option Addr} {m c B : Nat} {news : List Value} (hx : a.eval x = .slice A m c) (hr : Reads w B A m news) (h1 : ∀ u ∈ news, u.oneCell' = true)
    (h63 : xs.length + m ≤ maxLen) (hbytes : (xs.length + m) * bytes ≤ 140737488355328) (hbase : base ≤ w.heap.size)
    (h : ∀ v' w', Own w' base E v' (xs ++ news) → Below base w w' → K (a.put o.dst v') w') : if Region.wanted o (yielded ops a.tmps) = true then Oper.wp P o a w K Q else EE := by
  have hw : Region.wanted o (yielded ops a.tmps) = true := by simp [Region.wanted, hgd]
  rw [if_pos hw]
  obtain ⟨i, hi, hz, hsize, hby⟩ := el.info
  rcases Nat.eq_zero_or_pos m with h0 | h0
  · subst h0
    have hn : news = [] := List.eq_nil_of_length_eq_zero hr.len
    subst hn
    have hrun : (Builtin.append_ #[T, T] o.type #[v, .slice A 0 c]).run P w = .ok v w := by
      rcases hown.2 with ⟨rfl, h0⟩ | ⟨g, cap, cur, rfl, _, _, hnc, _⟩
      · have hx0 : xs = [] := List.eq_nil_of_length_eq_zero h0
        subst hx0
        cases A <;> simp [Builtin.append_, run_underlying el.under, sizeOf, typeInfo, hi, Builtin.lenOf, Builtin.firstCells, loadCells, loadCellsFrom]
      · cases A <;> simp [Builtin.append_, run_underlying el.under, sizeOf, typeInfo, hi, Builtin.lenOf, Builtin.firstCells, hnc, storeCells, loadCells, loadCellsFrom]
    unfold Oper.wp execOp
    simp only [ho, resolve, invoke, builtin, Sem.run_bind, Sem.run_pure, Result.andThen_ok, List.map_toArray, List.map_cons, List.map_nil, hs, hx, hrun]
    exact h v w (by simpa using hown) (Below.refl _ _)
  · obtain ⟨ad, rfl, _, hc⟩ := hr.cells h0
    refine wp_append_lies w s x T ho base E i z 1 bytes el.under hi hz hsize hby (by rw [el.one]; rfl) (by omega) v xs.length xs hs hown ad m c news hx (by rw [hr.len]; omega) hc h1 h0 h63 hbytes hbase _ rfl ?_
    intro g cap w' hown' hgrow hat hlt
    refine h _ w' ?_ (grown_below hgrow hbase (fun k hk => (Own.lt hown k hk).1))
    unfold Own
    rw [List.length_append, hr.len]
    exact hown'
theorem run_appN (el : Elem P T E z bytes) (ty : TypeId) (hown : Own w base E v xs) {A : Option Addr} {m c B : Nat} {news : List Value} (hr : Reads w B A m news) (h1 : ∀ u ∈ news, u.oneCell' = true)
    (h63 : xs.length + m ≤ maxLen) (hbytes : (xs.length + m) * bytes ≤ 140737488355328) (hbase : base ≤ w.heap.size) :
    ∃ v' w', (Builtin.append_ #[T, T] ty #[v, .slice A m c]).run P w = .ok v' w' ∧ Own w' base E v' (xs ++ news) ∧ w.grownBy w' v.ownBlock ∧ (v'.ownBlock = v.ownBlock ∨ v'.ownBlock = some w.heap.size) := by
  obtain ⟨i, hi, hz, hsize, hby⟩ := el.info
  rcases Nat.eq_zero_or_pos m with h0 | h0
  · subst h0
    have hn : news = [] := List.eq_nil_of_length_eq_zero hr.len
    subst hn
    have hrun : (Builtin.append_ #[T, T] ty #[v, .slice A 0 c]).run P w = .ok v w := by
      rcases hown.2 with ⟨rfl, h0⟩ | ⟨g, cap, cur, rfl, _, _, hnc, _⟩
      · have hx0 : xs = [] := List.eq_nil_of_length_eq_zero h0
        subst hx0
        cases A <;> simp [Builtin.append_, run_underlying el.under, sizeOf, typeInfo, hi, Builtin.lenOf, Builtin.firstCells, loadCells, loadCellsFrom]
      · cases A <;> simp [Builtin.append_, run_underlying el.under, sizeOf, typeInfo, hi, Builtin.lenOf, Builtin.firstCells, hnc, storeCells, loadCells, loadCellsFrom]
    exact ⟨v, w, hrun, by simpa using hown, World.grownBy.refl w _, .inl rfl⟩
  · obtain ⟨ad, rfl, _, hc⟩ := hr.cells h0
    obtain ⟨v', w', hrun, h2, h3, _, h5⟩ := run_append_own_at (P := P) w base T ty E i z 1 bytes el.under hi hz hsize hby (by rw [el.one]; rfl) (by omega) v xs.length xs hown ad m c news (by rw [hr.len]; omega) hc h1 h63 hbytes hbase
    refine ⟨v', w', hrun, ?_, h3, h5⟩
    unfold Own
    rw [List.length_append, hr.len]
    exact h2
theorem step_appG {ops : Array Oper} {o : Oper} {a : Act} {K : Act → World → Prop} {Q : Exit → Act → World → Prop} {EE : Prop} (el : Elem P T E z bytes) (hgd : o.guard = none) (s x : Operand)
    (ho : o.op = .call { callee := .builtin .append, args := #[s, x], argTypes := #[T, T] })
    (hs : a.eval s = v) (hown : Own w base E v xs) {A : Option Addr} {m c B : Nat} {news : List Value} (hx : a.eval x = .slice A m c) (hr : Reads w B A m news) (h1 : ∀ u ∈ news, u.oneCell' = true)
    (h63 : xs.length + m ≤ maxLen) (hbytes : (xs.length + m) * bytes ≤ 140737488355328) (hbase : base ≤ w.heap.size)
    (h : ∀ v' w', Own w' base E v' (xs ++ news) → w.grownBy w' v.ownBlock → (v'.ownBlock = v.ownBlock ∨ v'.ownBlock = some w.heap.size) → K (a.put o.dst v') w') : if Region.wanted o (yielded ops a.tmps) = true then Oper.wp P o a w K Q else EE := by
  have hw : Region.wanted o (yielded ops a.tmps) = true := by simp [Region.wanted, hgd]
  rw [if_pos hw]
  obtain ⟨v', w', hrun, h2, h3, h4⟩ := run_appN (c := c) el o.type hown hr h1 h63 hbytes hbase
  unfold Oper.wp execOp
  simp only [ho, resolve, invoke, builtin, Sem.run_bind, Sem.run_pure, Result.andThen_ok, List.map_toArray, List.map_cons, List.map_nil, hs, hx, hrun]
  exact h v' w' h2 h3 h4
theorem own_made (el : Elem P T E z bytes) (w : World) (n : Nat) (hn : n ≤ maxLen) (hB : base ≤ w.heap.size) : Own (w.alloc (.cells (madeCells #[z] n) E)) base E (.slice (some ⟨w.heap.size, 0, none⟩) n n) (List.replicate n z) := by
  have hcells : (madeCells #[z] n).toList = List.replicate n z := by
    apply List.ext_getElem?
    intro j
    simp only [madeCells, Array.toList_map, List.getElem?_map, List.getElem?_replicate]
    by_cases hj : j < n
    · simp [hj, Nat.mod_one]
    · simp [hj]
  have := Own.built (E := E) (base := base) w (madeCells #[z] n) n (by have := congrArg List.length hcells; simpa using this) hn hB
  rwa [hcells] at this
end
end Go.Proofs.Ytdidahafbcddeaa

/-
  append of a slice that is cut at its capacity: it lies in a new row, or, where nothing is appended, as it was.
-/
import Derived.Test.YtglcljlafioleaaAppz
import Derived.Deep.AppendSrc
import Derived.Deep.RegionLaw
import Derived.Deep.AppendLies
set_option linter.unusedVariables false
namespace Go.Proofs.Ytglcljlafioleaa
open Go.RowKit

theorem Reads.cutTo {w : World} {B n k : Nat} {ad : Addr} {xs : List Value} (h : Reads w B (some ad) n xs) (hk : k ≤ n) : Reads w B (some ad) k (xs.take k) := by
  refine ⟨by rw [List.length_take, h.len]; omega, fun h0 => ?_⟩
  obtain ⟨a, e, hb, hc⟩ := h.cells (by omega)
  refine ⟨a, e, hb, fun j u hu => hc j u ?_⟩
  rw [List.getElem?_take] at hu
  split at hu
  · exact hu
  · cases hu
theorem Reads.cutFrom {w : World} {B n k : Nat} {ad : Addr} {xs : List Value} (h : Reads w B (some ad) n xs) (hk : k ≤ n) : Reads w B (some (ad.add k)) (n - k) (xs.drop k) := by
  refine ⟨by rw [List.length_drop, h.len], fun h0 => ?_⟩
  obtain ⟨a, e, hb, hc⟩ := h.cells (by omega)
  injection e with e; subst e
  refine ⟨_, rfl, by rw [block_of_add]; exact hb, fun j u hu => ?_⟩
  rw [add_of_add]
  refine hc _ u ?_
  rw [List.getElem?_drop] at hu
  exact hu
section
variable {P : Program} {w w' : World} {base : Nat} {E T : TypeId} {z : Value} {bytes : Nat}
theorem run_appCut (el : Elem P T E z bytes) (ty : TypeId) (ad : Addr) (n m c B : Nat) {A : Option Addr} {xs news : List Value} (hx : Reads w w.heap.size (some ad) n xs) (hr : Reads w B A m news) (h1 : ∀ u ∈ news, u.oneCell' = true)
    (h63 : n + m ≤ maxLen) (hbytes : (n + m) * bytes ≤ 140737488355328) :
    ∃ ad' c' w', (Builtin.append_ #[T, T] ty #[.slice (some ad) n n, .slice A m c]).run P w = .ok (.slice (some ad') (n + m) c') w' ∧ Reads w' w'.heap.size (some ad') (n + m) (xs ++ news) ∧ w.grownBy w' none ∧ (ad' = ad ∨ ad'.block = w.heap.size) ∧ n + m ≤ c' ∧ (n ≤ maxLen → c' ≤ maxLen) := by
  obtain ⟨i, hi, hz, hsize, hby⟩ := el.info
  rcases Nat.eq_zero_or_pos m with rfl | hm
  · have hn : news = [] := List.eq_nil_of_length_eq_zero hr.len
    subst hn
    refine ⟨ad, n, w, ?_, by simpa using hx, World.grownBy.refl w _, .inl rfl, by omega, fun h => h⟩
    rcases A with _ | a2
    · simp [Builtin.append_, run_underlying el.under, sizeOf, typeInfo, hi, Builtin.lenOf, Builtin.firstCells, storeCells]
    · simp [Builtin.append_, run_underlying el.under, sizeOf, typeInfo, hi, Builtin.lenOf, Builtin.firstCells, storeCells, loadCells, loadCellsFrom]
  · obtain ⟨a2, rfl, _, hc2⟩ := hr.cells hm
    have holds : ∀ j u, xs[j]? = some u → w.drew.cell? (ad.add j) = some u := fun j u hu => by
      rcases Nat.eq_zero_or_pos n with h0 | h0
      · have : xs = [] := List.eq_nil_of_length_eq_zero (hx.len.trans h0)
        subst this; simp at hu
      · obtain ⟨ad1, e, _, hc⟩ := hx.cells h0
        injection e with e; subst e
        exact hc j u hu
    have hold := run_firstCells_some (P := P) w.drew i.size n ad n n xs (by rw [hsize, Nat.mul_one, hx.len]) holds
    have hsrc := Src.ofSlice (P := P) (w := w) (size := i.size) el.under a2 m c news (by rw [hr.len, hsize, Nat.mul_one]) hc2 h1
    have hrun := run_append_grow_src (P := P) w T T ty E i z el.under hi hz (some ad) n n xs hold (.slice (some a2) m c) m news hsrc (by omega) (by unfold maxLen at h63; omega) (by rw [hby]; exact growslice_fits (by omega) hbytes)
    have hge := grownCap_ge w (n + m) n E
    have hcm : grownCap w (n + m) n E ≤ maxLen := grownCap_le_maxLen w (n + m) n E h63
    have hlen : (xs ++ news).length = n + m := by rw [List.length_append, hx.len, hr.len]
    refine ⟨_, _, _, hrun, ?_, ⟨rfl, rfl, rfl, by simp, fun j hj _ => by first | exact heap_alloc_old w.drew _ hj | exact Go.heap_alloc_old w.drew _ j hj⟩, .inr rfl, hge, fun _ => hcm⟩
    have ho : Own (w.drew.alloc (.cells ((xs ++ news).toArray ++ Builtin.zeroCells z.cells (grownCap w (n + m) n E - (n + m))) E)) 0 E (.slice (some ⟨w.heap.size, 0, none⟩) (n + m) (grownCap w (n + m) n E)) (xs ++ news) := by
      unfold Own
      rw [hlen]
      refine ⟨by rw [hlen, Nat.mul_one], .inr ⟨w.heap.size, _, _, rfl, Nat.zero_le _, heap_alloc_new w.drew _, hge, hcm, ?_, ?_⟩⟩
      · rw [el.one]
        simp only [Array.size_append, size_zeroCells, List.size_toArray, List.length_cons, List.length_nil, hlen]
        omega
      · simp only [Array.toList_append]
        rw [Nat.mul_one, ← hlen]
        exact List.take_left
    exact ho.reads
theorem appCut {ops : Array Oper} {rest : List Oper} {o : Oper} {a : Act} {Q : Exit → Act → World → Prop} (el : Elem P T E z bytes) (hgd : o.guard = none) (s x : Operand)
    (ho : o.op = .call { callee := .builtin .append, args := #[s, x], argTypes := #[T, T] })
    {ad : Addr} {n m c B : Nat} (hs : a.eval s = .slice (some ad) n n) {A : Option Addr} {xs news : List Value} (hx : a.eval x = .slice A m c) (hxs : Reads w w.heap.size (some ad) n xs) (hr : Reads w B A m news) (h1 : ∀ u ∈ news, u.oneCell' = true)
    (h63 : n + m ≤ maxLen) (hbytes : (n + m) * bytes ≤ 140737488355328) (hbase : base ≤ w.heap.size)
    (h : ∀ ad' c' w', Reads w' w'.heap.size (some ad') (n + m) (xs ++ news) → Below base w w' → w.grownBy w' none → (ad' = ad ∨ ad'.block = w.heap.size) → n + m ≤ c' → (n ≤ maxLen → c' ≤ maxLen) → wpList P ops Q rest (a.put o.dst (.slice (some ad') (n + m) c')) w') : wpList P ops Q (o :: rest) a w := by
  obtain ⟨ad', c', w', hrun, h2, hg, hat, h3, h4⟩ := run_appCut el o.type ad n m c B hxs hr h1 h63 hbytes
  exact Lib.wpList_append_run w hgd s x T T ho _ _ hs hx _ w' hrun (h ad' c' w' h2 (grown_below hg hbase (fun j hj => by cases hj)) hg hat h3 h4)
theorem step_appCut {ops : Array Oper} {o : Oper} {a : Act} {K : Act → World → Prop} {Q : Exit → Act → World → Prop} {EE : Prop} (el : Elem P T E z bytes) (hgd : o.guard = none) (s x : Operand)
    (ho : o.op = .call { callee := .builtin .append, args := #[s, x], argTypes := #[T, T] })
    {ad : Addr} {n m c B : Nat} (hs : a.eval s = .slice (some ad) n n) {A : Option Addr} {xs news : List Value} (hx : a.eval x = .slice A m c) (hxs : Reads w w.heap.size (some ad) n xs) (hr : Reads w B A m news) (h1 : ∀ u ∈ news, u.oneCell' = true)
    (h63 : n + m ≤ maxLen) (hbytes : (n + m) * bytes ≤ 140737488355328) (hbase : base ≤ w.heap.size)
    (h : ∀ ad' c' w', Reads w' w'.heap.size (some ad') (n + m) (xs ++ news) → Below base w w' → w.grownBy w' none → (ad' = ad ∨ ad'.block = w.heap.size) → n + m ≤ c' → (n ≤ maxLen → c' ≤ maxLen) → K (a.put o.dst (.slice (some ad') (n + m) c')) w') : if Region.wanted o (yielded ops a.tmps) = true then Oper.wp P o a w K Q else EE := by
  have hw : Region.wanted o (yielded ops a.tmps) = true := by simp [Region.wanted, hgd]
  rw [if_pos hw]
  obtain ⟨ad', c', w', hrun, h2, hg, hat, h3, h4⟩ := run_appCut el o.type ad n m c B hxs hr h1 h63 hbytes
  unfold Oper.wp execOp
  simp only [ho, resolve, invoke, builtin, Sem.run_bind, Sem.run_pure, Result.andThen_ok, List.map_toArray, List.map_cons, List.map_nil, hs, hx, hrun]
  exact h ad' c' w' h2 (grown_below hg hbase (fun j hj => by cases hj)) hg hat h3 h4
end
end Go.Proofs.Ytglcljlafioleaa

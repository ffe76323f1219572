/-
  huff.lens: its trees in memory.
-/
import Derived.Test.YtdidahafbcddeaaHufs
import Derived.Test.YtdidahafbcddeaaHufi
import Derived.Test.YtdidahafbcddeaaConcatInts
import Derived.Test.YtdidahafbcddeaaStore
set_option linter.unusedVariables false
namespace Go.Proofs.Ytdidahafbcddeaa
open Go.RowKit

abbrev HE := HT × List Nat
def entH (e : HE) : Ent := (e.1.wt, e.2)
/-- the trees, and the symbols of each in a row of its own, behind block lb -/
structure Forest (w : World) (lb : Nat) (v : Value) (E : List HE) : Prop where
  row : OwnQ w lb 78 2 v (E.map fun e => encH e.1)
  syms : ∀ e ∈ E, Own w (lb + 1) 3 (.slice e.1.A e.1.n e.1.c) (vn .i64 e.2)
section
variable {w w' : World} {lb : Nat} {v : Value} {E : List HE} {F : Nat → Prop}
theorem Forest.ch (h : Forest w lb v E) (hc : Ch w w' F) (h1 : ∀ b, v.ownBlock = some b → ¬ F b) (h2 : ∀ b, lb + 1 ≤ b → ∀ cur, w.heap[b]? = some (.cells cur 3 (0, 0)) → ¬ F b) : Forest w' lb v E :=
  ⟨h.row.ch hc h1, fun e he => (h.syms e he).ch hc (fun b hb => by
    obtain ⟨cur, e'⟩ := (h.syms e he).ty hb
    exact h2 b ((h.syms e he).lt b hb).1 cur e')⟩
theorem Forest.below (h : Forest w lb v E) (hb : Below w.heap.size w w') : Forest w' lb v E :=
  h.ch (F := fun _ => False) ⟨hb.os, hb.tape, hb.output, hb.size, fun b hl _ => hb.block b hl⟩ (fun _ _ e => e) (fun _ _ _ _ e => e)
theorem Forest.alloc (h : Forest w lb v E) (o : Obj) : Forest (w.alloc o) lb v E := h.below ((Below.refl _ _).alloc (Nat.le_refl _) o)
theorem Forest.drew (h : Forest w lb v E) : Forest w.drew lb v E := h.below (below_drewN (Below.refl _ _) 1)
theorem Forest.drewN (h : Forest w lb v E) (n : Nat) : Forest (w.drewN n) lb v E := h.below (below_drewN (Below.refl _ _) n)
/-- a length was raised -/
theorem Forest.setLen (h : Forest w lb v E) (j : Nat) (u : Value) (hl : ∃ cur, w.heap[lb]? = some (.cells cur 3 (0, 0))) : Forest (w.setCell ⟨lb, j, none⟩ u) lb v E := by
  obtain ⟨cur, hcur⟩ := hl
  refine h.ch ((Ch.refl w (fun b => b = lb)).setCell lb j u (fun _ => rfl)) (fun b hb e => ?_) (fun b hb _ _ e => by omega)
  obtain ⟨c2, e2⟩ := h.row.ty hb
  subst e
  exact ty_ne e2 hcur (by decide) rfl
/-- the trees in another order -/
theorem Forest.sorted {d : Array HT} {g off n c : Nat} (h : Forest w lb (.slice (some ⟨g, off, none⟩) n c) E) (hp : d.toList.Perm (E.map Prod.fst)) (hr : OwnQ w' lb 78 2 (.slice (some ⟨g, off, none⟩) n c) (d.toList.map encH)) (hc : Ch w w' (fun b => b = g)) :
    ∃ E' : List HE, E'.Perm E ∧ E'.map Prod.fst = d.toList ∧ Forest w' lb (.slice (some ⟨g, off, none⟩) n c) E' := by
  obtain ⟨E', h1, h2⟩ := reorder (f := Prod.fst) hp.symm E rfl
  refine ⟨E', h1, h2, ⟨?_, fun e he => ?_⟩⟩
  · rw [← h2, List.map_map] at hr
    exact hr
  · refine (h.syms e (h1.mem_iff.1 he)).ch hc (fun b hb e' => ?_)
    obtain ⟨cur, hcur⟩ := (h.syms e (h1.mem_iff.1 he)).ty hb
    obtain ⟨c2, hc2⟩ := h.row.ty (g := g) rfl
    subst e'
    exact ty_ne hcur hc2 (by decide) rfl
/-- a tree's cells -/
theorem Forest.at_ {A : Option Addr} {n c i : Nat} {e : HE} (h : Forest w lb (.slice A n c) E) (he : E[i]? = some e) : ∃ ad, A = some ad ∧ ad.spot = none ∧ i < n ∧ w.cell? ⟨ad.block, ad.off + i * 2, none⟩ = some (.int .i64 (e.1.wt : Int)) ∧ w.cell? ⟨ad.block, ad.off + (i * 2 + 1), none⟩ = some (.slice e.1.A e.1.n e.1.c) := by
  have hx : (E.map fun e => encH e.1)[i]? = some (encH e.1) := by rw [List.getElem?_map, he]; rfl
  obtain ⟨ad, e1, _, _, hs, hc⟩ := h.row.at_ hx
  obtain ⟨A', c', e2⟩ := h.row.form
  injection e2 with _ e3 _
  have hi := (List.getElem?_eq_some_iff.1 hx).1
  exact ⟨ad, e1, hs, by omega, hc 0 _ rfl, hc 1 _ rfl⟩
end
/-- the row without its first two elements -/
theorem OwnQ.tail2 {w : World} {base k : Nat} {T : TypeId} {A : Option Addr} {n c : Nat} {x y : List Value} {t : List (List Value)} (h : OwnQ w base T k (.slice A n c) (x :: y :: t)) :
    ∃ ad, A = some ad ∧ ad.spot = none ∧ n = t.length + 2 ∧ t.length + 2 ≤ c ∧ OwnQ w base T k (.slice (some (if c = 2 then ad else ⟨ad.block, ad.off + 2 * k, none⟩)) t.length (c - 2)) t := by
  rcases h.2 with ⟨e, h0⟩ | ⟨g, off, c', cur, e, e2, e3, e4, e5, e6, e7⟩
  · cases h0
  · injection e with eA en ec
    subst ec
    simp only [List.length_cons] at en e4 e7
    refine ⟨_, eA, rfl, by omega, by omega, fun z hz => h.1 z (List.mem_cons_of_mem _ (List.mem_cons_of_mem _ hz)), .inr ?_⟩
    have hxk := h.1 x (by simp)
    have hyk := h.1 y (by simp)
    by_cases hc : c = 2
    · have ht : t = [] := List.eq_nil_of_length_eq_zero (by omega)
      subst ht
      rw [if_pos hc]
      exact ⟨g, off, c - 2, cur, rfl, e2, e3, by simp, by omega, by subst hc; simp at e6 ⊢; omega, fun j hj => by simp at hj⟩
    · rw [if_neg hc]
      refine ⟨g, off + 2 * k, c - 2, cur, rfl, e2, e3, by omega, by omega, ?_, fun j hj => ?_⟩
      · have : c * k = (c - 2) * k + 2 * k := by rw [← Nat.add_mul]; congr 1; omega
        omega
      · have h8 := e7 (2 * k + j) (by rw [show t.length + 1 + 1 = t.length + 2 by omega, Nat.add_mul]; omega)
        rw [List.flatten_cons, List.flatten_cons, List.getElem?_append_right (by omega), List.getElem?_append_right (by omega), hxk, hyk, show 2 * k + j - k - k = j by omega] at h8
        rw [← h8]; congr 1; omega
theorem el_tree : ElemK Try.prog 76 78 2 32 := ElemK.mk' (z := .agg #[.int .i64 0, .slice none 0 0]) Try.underlying76 (by kernel_rfl) rfl (by omega)
theorem el_intH : Elem Try.prog 32 3 (.int .i64 0) 8 := Elem.mk' Try.underlying32 (by kernel_rfl) rfl
end Go.Proofs.Ytdidahafbcddeaa

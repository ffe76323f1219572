/-
  A map from uint32 to uint32 that the call made: what a key finds, as a function. Over any program.
-/
import Derived.Test.YthijnhoggdoklaaOwn
import Derived.Maps.Own
import Derived.Maps.OwnSet
import Derived.Maps.Views
set_option linter.unusedVariables false
namespace Go.Proofs.Ythijnhoggdoklaa
open Go.RowKit
open Go.Maps (Keyed)

def MapN (P : Program) (k e : TypeId) (w : World) (b n : Nat) (f : Nat → Option Nat) : Prop :=
  ∃ D : DataW Unit, w.ownsMap P k (plainElem P e) b n D ∧ ∀ a : Nat, D.atKey (.int .u32 (a : Int)) (.lit (.int .u32 0)) = .lit (.int .u32 (((f a).getD 0 : Nat) : Int)) ∧ Maps.has D (.int .u32 (a : Int)) = (f a).isSome
theorem wf_u32 (a : Nat) (h : a < 4294967296) : (Lit.int .u32 (a : Int)).wf = true := by
  have h1 : IntKind.u32.min = 0 := rfl
  have h2 : IntKind.u32.max = 4294967295 := rfl
  simp [Lit.wf]; omega
section
variable {P : Program} {k e t : TypeId} {w w' : World} {b n : Nat} {f : Nat → Option Nat}
theorem MapN.keep (h : MapN P k e w b n f) (hh : w'.heap[b]? = w.heap[b]?) : MapN P k e w' b n f := by
  obtain ⟨D, ⟨es, clock, h1, h2⟩, hD⟩ := h
  exact ⟨D, ⟨es, clock, hh.trans h1, h2⟩, hD⟩
theorem MapN.lt (h : MapN P k e w b n f) : b < w.heap.size := by
  obtain ⟨D, h1, _⟩ := h
  exact h1.lt
theorem MapN.drewN (h : MapN P k e w b n f) (q : Nat) : MapN P k e (w.drewN q) b n f := h.keep rfl
theorem MapN.made (w : World) (P : Program) (k e : TypeId) : MapN P k e (w.alloc (.map #[] 0)) w.heap.size 0 (fun _ => none) :=
  ⟨.map [], World.ownsMap_made w P k _, fun _ => ⟨rfl, rfl⟩⟩
theorem MapN.look_ok (h : MapN P k e w b n f) (ht : P.underlying t = some (.map k e)) (hk : P.underlying k = some (.int .u32)) (he : P.underlying e = some (.int .u32)) (hz : (zeroValue e).run P w = .ok (.int .u32 0) w) (a : Nat) (ha : a < 4294967296) :
    (Instr.lookup t (.map (some b)) (.int .u32 (a : Int)) true).run P w = .ok (.tuple #[.int .u32 (((f a).getD 0 : Nat) : Int), .bool (f a).isSome]) w := by
  obtain ⟨D, h1, hD⟩ := h
  obtain ⟨v, ps, hr, hv⟩ := h1.look_ok (Maps.int_keyed hk) ht hz (plainElem_int he (by rfl)) (Maps.keyOf_int_mk hk (wf_u32 a ha))
  rw [(hD a).1] at hv
  obtain ⟨c, rfl, hc, _⟩ := plainElem_int_inv he hv
  simp only [Prod.mk.injEq, DataW.lit.injEq, Lit.int.injEq, true_and] at hc
  rw [hr, (hD a).2, ← hc.1]
theorem MapN.look (h : MapN P k e w b n f) (ht : P.underlying t = some (.map k e)) (hk : P.underlying k = some (.int .u32)) (he : P.underlying e = some (.int .u32)) (hz : (zeroValue e).run P w = .ok (.int .u32 0) w) (a : Nat) (ha : a < 4294967296) :
    (Instr.lookup t (.map (some b)) (.int .u32 (a : Int)) false).run P w = .ok (.int .u32 (((f a).getD 0 : Nat) : Int)) w := by
  obtain ⟨D, h1, hD⟩ := h
  obtain ⟨v, ps, hr, hv⟩ := h1.lookup (Maps.int_keyed hk) ht hz (plainElem_int he (by rfl)) (Maps.keyOf_int_mk hk (wf_u32 a ha))
  rw [(hD a).1] at hv
  obtain ⟨c, rfl, hc, _⟩ := plainElem_int_inv he hv
  simp only [Prod.mk.injEq, DataW.lit.injEq, Lit.int.injEq, true_and] at hc
  rw [hr, ← hc.1]
theorem MapN.put (h : MapN P k e w b n f) (ht : P.underlying t = some (.map k e)) (hk : P.underlying k = some (.int .u32)) (he : P.underlying e = some (.int .u32)) (hn : n < maxLen) (a : Nat) (ha : a < 4294967296) (x : Nat) (hx : x < 4294967296) :
    ∃ w', (Instr.mapUpdate t (.map (some b)) (.int .u32 (a : Int)) (.int .u32 (x : Int))).run P w = .ok () w' ∧ MapN P k e w' b (n + 1) (fun y => if y = a then some x else f y) ∧ w.grownBy w' (some b) := by
  obtain ⟨D, h1, hD⟩ := h
  obtain ⟨w', hr, h2, hg⟩ := h1.update (Maps.int_keyed hk) ht hn (Maps.keyOf_int_mk hk (wf_u32 a ha)) (plainElem_int he (wf_u32 x hx))
  refine ⟨w', hr, ⟨_, h2, fun y => ?_⟩, hg⟩
  dsimp only
  by_cases hy : y = a
  · subst hy
    rw [if_pos rfl, Maps.atKey_put_same h1.isMap (show WideAt.IsKeyLit (.int .u32 (y : Int)) from trivial), Maps.has_put_same h1.isMap (show WideAt.IsKeyLit (.int .u32 (y : Int)) from trivial)]
    exact ⟨rfl, rfl⟩
  · have hne : (Lit.int .u32 (y : Int)) ≠ .int .u32 (a : Int) := by simp; omega
    rw [if_neg hy, Maps.atKey_put_other hne, Maps.has_put_other hne]
    exact hD y
end
end Go.Proofs.Ythijnhoggdoklaa

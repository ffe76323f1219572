/-
  A map from a kind of integer to bool that the call made: what a key finds, as a function. Over any program.
-/
import Derived.Test.YtmepiiheidmbgaaMapB
set_option linter.unusedVariables false
namespace Go.Proofs.Ytmepiiheidmbgaa
open Go.RowKit
open Go.Maps (Keyed)

def MapK (P : Program) (K : IntKind) (k e : TypeId) (w : World) (b n : Nat) (f : Int → Bool) : Prop :=
  ∃ D : DataW Unit, w.ownsMap P k (plainElem P e) b n D ∧ ∀ a : Int, D.atKey (.int K a) (.lit (.bool false)) = .lit (.bool (f a))
section
variable {P : Program} {K : IntKind} {k e t : TypeId} {w w' : World} {b n : Nat} {f : Int → Bool}
theorem MapK.keep (h : MapK P K k e w b n f) (hh : w'.heap[b]? = w.heap[b]?) : MapK P K k e w' b n f := by
  obtain ⟨D, ⟨es, clock, h1, h2⟩, hD⟩ := h
  exact ⟨D, ⟨es, clock, hh.trans h1, h2⟩, hD⟩
theorem MapK.lt (h : MapK P K k e w b n f) : b < w.heap.size := by
  obtain ⟨D, h1, _⟩ := h
  exact h1.lt
theorem MapK.made (w : World) (P : Program) (K : IntKind) (k e : TypeId) : MapK P K k e (w.alloc (.map #[] 0)) w.heap.size 0 (fun _ => false) :=
  ⟨.map [], World.ownsMap_made w P k _, fun _ => rfl⟩
theorem MapK.look (h : MapK P K k e w b n f) (ht : P.underlying t = some (.map k e)) (hk : P.underlying k = some (.int K)) (he : P.underlying e = some .bool) (hz : (zeroValue e).run P w = .ok (.bool false) w) (a : Int) (ha : (Lit.int K a).wf = true) :
    (Instr.lookup t (.map (some b)) (.int K a) false).run P w = .ok (.bool (f a)) w := by
  obtain ⟨D, h1, hD⟩ := h
  obtain ⟨v, ps, hr, hv⟩ := h1.lookup (Maps.int_keyed hk) ht hz (plainElem_bool he false) (Maps.keyOf_int_mk hk ha)
  rw [hD a] at hv
  rw [hr, plainElem_bool_inv he hv]
theorem MapK.put (h : MapK P K k e w b n f) (ht : P.underlying t = some (.map k e)) (hk : P.underlying k = some (.int K)) (he : P.underlying e = some .bool) (hn : n < maxLen) (a : Int) (ha : (Lit.int K a).wf = true) (x : Bool) :
    ∃ w', (Instr.mapUpdate t (.map (some b)) (.int K a) (.bool x)).run P w = .ok () w' ∧ MapK P K k e w' b (n + 1) (fun y => if y = a then x else f y) ∧ w.grownBy w' (some b) := by
  obtain ⟨D, h1, hD⟩ := h
  obtain ⟨w', hr, h2, hg⟩ := h1.update (Maps.int_keyed hk) ht hn (Maps.keyOf_int_mk hk ha) (plainElem_bool he x)
  refine ⟨w', hr, ⟨_, h2, fun y => ?_⟩, hg⟩
  dsimp only
  by_cases hy : y = a
  · subst hy
    rw [if_pos rfl, Maps.atKey_put_same h1.isMap (show WideAt.IsKeyLit (.int K y) from trivial)]
  · rw [if_neg hy, Maps.atKey_put_other (by simpa using hy), hD y]
end
theorem wf_u8 (a : Nat) (h : a < 256) : (Lit.int .u8 (a : Int)).wf = true := by
  have h1 : IntKind.u8.min = 0 := rfl
  have h2 : IntKind.u8.max = 255 := rfl
  simp [Lit.wf]; omega
end Go.Proofs.Ytmepiiheidmbgaa

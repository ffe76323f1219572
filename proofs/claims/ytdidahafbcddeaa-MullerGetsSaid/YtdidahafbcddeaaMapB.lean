/-
  A map from int to bool that the call made: what a key finds, as a function. Over any program.
-/
import Derived.Test.YtdidahafbcddeaaOwn
import Derived.Maps.Own
import Derived.Maps.OwnSet
import Derived.Maps.Views
set_option linter.unusedVariables false
namespace Go.Proofs.Ytdidahafbcddeaa
open Go.RowKit
open Go.Maps (Keyed)

/-- block b is a map of at most n entries; what it finds at the key a is f a -/
def MapB (P : Program) (k e : TypeId) (w : World) (b n : Nat) (f : Int → Bool) : Prop :=
  ∃ D : DataW Unit, w.ownsMap P k (plainElem P e) b n D ∧ ∀ a : Int, D.atKey (.int .i64 a) (.lit (.bool false)) = .lit (.bool (f a))
theorem plainElem_bool_inv {P : Program} {e : TypeId} (he : P.underlying e = some .bool) {v : Value} {x : Bool} {ps : List MemPlace} (h : plainElem (H := Unit) P e v = some (.lit (.bool x), ps)) : v = .bool x := by
  unfold plainElem at h
  rw [he] at h
  cases v <;> simp at h
  rw [h.1]
section
variable {P : Program} {k e t : TypeId} {w w' : World} {b n : Nat} {f : Int → Bool}
theorem MapB.keep (h : MapB P k e w b n f) (hh : w'.heap[b]? = w.heap[b]?) : MapB P k e w' b n f := by
  obtain ⟨D, ⟨es, clock, h1, h2⟩, hD⟩ := h
  exact ⟨D, ⟨es, clock, hh.trans h1, h2⟩, hD⟩
theorem MapB.lt (h : MapB P k e w b n f) : b < w.heap.size := by
  obtain ⟨D, h1, _⟩ := h
  exact h1.lt
theorem MapB.made (w : World) (P : Program) (k e : TypeId) : MapB P k e (w.alloc (.map #[] 0)) w.heap.size 0 (fun _ => false) :=
  ⟨.map [], World.ownsMap_made w P k _, fun _ => rfl⟩
theorem MapB.look (h : MapB P k e w b n f) (ht : P.underlying t = some (.map k e)) (hk : P.underlying k = some (.int .i64)) (he : P.underlying e = some .bool) (hz : (zeroValue e).run P w = .ok (.bool false) w) (a : Int) (ha : (Lit.int .i64 a).wf = true) :
    (Instr.lookup t (.map (some b)) (.int .i64 a) false).run P w = .ok (.bool (f a)) w := by
  obtain ⟨D, h1, hD⟩ := h
  obtain ⟨v, ps, hr, hv⟩ := h1.lookup (Maps.int_keyed hk) ht hz (plainElem_bool he false) (Maps.keyOf_int_mk hk ha)
  rw [hD a] at hv
  rw [hr, plainElem_bool_inv he hv]
theorem MapB.put (h : MapB P k e w b n f) (ht : P.underlying t = some (.map k e)) (hk : P.underlying k = some (.int .i64)) (he : P.underlying e = some .bool) (hn : n < maxLen) (a : Int) (ha : (Lit.int .i64 a).wf = true) (x : Bool) :
    ∃ w', (Instr.mapUpdate t (.map (some b)) (.int .i64 a) (.bool x)).run P w = .ok () w' ∧ MapB P k e w' b (n + 1) (fun y => if y = a then x else f y) ∧ w.grownBy w' (some b) := by
  obtain ⟨D, h1, hD⟩ := h
  obtain ⟨w', hr, h2, hg⟩ := h1.update (Maps.int_keyed hk) ht hn (Maps.keyOf_int_mk hk ha) (plainElem_bool he x)
  refine ⟨w', hr, ⟨_, h2, fun y => ?_⟩, hg⟩
  dsimp only
  by_cases hy : y = a
  · subst hy
    rw [if_pos rfl, Maps.atKey_put_same h1.isMap (show WideAt.IsKeyLit (.int .i64 y) from trivial)]
  · rw [if_neg hy, Maps.atKey_put_other (by simpa using hy), hD y]
end
end Go.Proofs.Ytdidahafbcddeaa

/-
  Worlds that differ by draws alone, and contracts for regions that draw their order.
-/
import Derived.Test.YtdidahafbcddeaaBase
import Derived.BigQuiet
import Derived.Deep.QuietTactic
set_option linter.unusedVariables false
namespace Go.Proofs.Ytdidahafbcddeaa
open Go.RowKit

/-- of the world only draws were made -/
def Qt (w w' : World) : Prop := ∃ m, w' = w.drewN m
theorem Qt.refl (w : World) : Qt w w := ⟨0, rfl⟩
theorem Qt.drewN {w w' : World} (h : Qt w w') (n : Nat) : Qt w (w'.drewN n) := by
  obtain ⟨m, rfl⟩ := h
  exact ⟨m + n, by rw [World.drewN_drewN]⟩
theorem Qt.below {w w' : World} (h : Qt w w') (B : Nat) : Below B w w' := by
  obtain ⟨m, rfl⟩ := h
  exact below_drewN (Below.refl _ _) m
theorem Qt.trans {a b c : World} (h : Qt a b) (k : Qt b c) : Qt a c := by
  obtain ⟨m, rfl⟩ := h
  obtain ⟨n, rfl⟩ := k
  exact ⟨m + n, by rw [World.drewN_drewN]⟩
theorem Qt.size {w w' : World} (h : Qt w w') : w'.heap.size = w.heap.size := by obtain ⟨m, rfl⟩ := h; rfl
theorem Reads.qt {w w' : World} {B n : Nat} {A : Option Addr} {xs : List Value} (h : Reads w B A n xs) (q : Qt w w') : Reads w' B A n xs := by
  obtain ⟨m, rfl⟩ := q
  exact h.drewN m
theorem Qt.cell {w w' : World} (h : Qt w w') (p : Addr) : w'.cell? p = w.cell? p := by obtain ⟨m, rfl⟩ := h; rfl
theorem RetQ.qt {w w' : World} {v : Value} {e : Ending} (h : RetQ w v e w') : e = .returned v ∧ Qt w w' := h
theorem retQ_of {w w' : World} {v : Value} (h : Qt w w') : RetQ w v (.returned v) w' := ⟨rfl, h⟩

theorem quietR {P : Program} {f : FuncId} {args : Array Value} {w : World} {n : Nat} {v : Value} (h : Calls P f args (w.drewN n) (Ret (w.drewN n) v)) :
    Calls P f args (w.drewN n) fun e w'' => e = .returned v ∧ ∃ m, w'' = w.drewN m :=
  h.mono fun _ _ ⟨he, hm⟩ => ⟨he, n, hm.symm⟩
theorem quietQ {P : Program} {f : FuncId} {args : Array Value} {w : World} {n : Nat} {v : Value} (h : Calls P f args (w.drewN n) (RetQ (w.drewN n) v)) :
    Calls P f args (w.drewN n) fun e w'' => e = .returned v ∧ ∃ m, w'' = w.drewN m :=
  h.mono fun _ _ ⟨he, m, hm⟩ => ⟨he, n + m, by rw [hm, World.drewN_drewN]⟩

/-- the same after an earlier region drew -/
theorem quietR2 {P : Program} {f : FuncId} {args : Array Value} {w : World} {n0 n : Nat} {v : Value} (h : Calls P f args (w.drewN (n0 + n)) (Ret (w.drewN (n0 + n)) v)) :
    Calls P f args (w.drewN (n0 + n)) fun e w'' => e = .returned v ∧ ∃ m, w'' = w.drewN (n0 + m) :=
  h.mono fun _ _ ⟨he, hm⟩ => ⟨he, n, hm.symm⟩
theorem quietQ2 {P : Program} {f : FuncId} {args : Array Value} {w : World} {n0 n : Nat} {v : Value} (h : Calls P f args (w.drewN (n0 + n)) (RetQ (w.drewN (n0 + n)) v)) :
    Calls P f args (w.drewN (n0 + n)) fun e w'' => e = .returned v ∧ ∃ m, w'' = w.drewN (n0 + m) :=
  h.mono fun _ _ ⟨he, m, hm⟩ => ⟨he, n + m, by rw [hm, World.drewN_drewN, Nat.add_assoc]⟩

theorem Reads.take {w : World} {B n k : Nat} {A : Option Addr} {xs : List Value} (h : Reads w B A n xs) (hk : k ≤ n) : Reads w B A k (xs.take k) := by
  refine ⟨by rw [List.length_take, h.len]; omega, fun hn => ?_⟩
  obtain ⟨ad, e, hb, hc⟩ := h.cells (by omega)
  refine ⟨ad, e, hb, fun j u hu => hc j u ?_⟩
  rw [List.getElem?_take] at hu
  split at hu
  · exact hu
  · cases hu
theorem Reads.takeN {w : World} {B n k : Nat} {A : Option Addr} {K : IntKind} {l : List Nat} (h : Reads w B A n (vn K l)) (hk : k ≤ n) : Reads w B A k (vn K (l.take k)) := by
  have := h.take hk
  rwa [← List.map_take] at this
end Go.Proofs.Ytdidahafbcddeaa

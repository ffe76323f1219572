/-
  (*stripe.Array).do.
-/
import Derived.Test.YtbhhijdpmpcdnaaArl
set_option linter.unusedVariables false
namespace Go.Proofs.Ytbhhijdpmpcdnaa
open Go.RowKit

theorem OnlyB.alloc {w w' : World} {hb d : Nat} {gr : Nat → Nat} (h : OnlyB w w' hb d gr) (o : Obj) : OnlyB w (w'.alloc o) hb d gr :=
  ⟨h.os, h.tape, h.output, Nat.le_trans h.size (by simp), fun b hb1 h2 hn => by
    rw [← h.block b hb1 h2 hn]
    exact ((Below.refl w'.heap.size w').alloc (Nat.le_refl _) o).block b (Nat.lt_of_lt_of_le hb1 h.size)⟩
/-- what a move does: what was read, the code, the discs, which one is lost -/
structure MvT where
  v : Nat
  e : Nat
  f : Nat → Nat → Nat
  z : Int
def doMv (d : Nat) (f : Nat → Nat → Nat) (z kind block : Int) (v : Nat) : MvT :=
  if kind < 1 ∨ 4 < kind then ⟨0, 6, f, z⟩
  else if block < 0 ∨ (if kind = 3 ∨ kind = 4 then (d : Int) else 24) ≤ block then ⟨0, 2, f, z⟩
  else if kind = 2 then ⟨readD f z d block.toNat, 0, f, z⟩
  else if kind = 3 then (if 0 ≤ z then ⟨0, 7, f, z⟩ else ⟨0, 0, zeroTo f block.toNat 0 (rowsD d), block⟩)
  else if kind = 4 then (if block = z then ⟨0, 0, renewTo f block.toNat d (rowsD d), -1⟩ else ⟨0, 7, f, z⟩)
  else ⟨0, 0, writeD f z d block.toNat v, z⟩
def DoMP (w : World) (b0 hb d : Nat) (gr : Nat → Nat) (t : MvT) (e : Ending) (w' : World) : Prop :=
  e = .returned (.tuple #[.int .u8 (t.v : Int), .int .i64 (t.e : Int)]) ∧ TabD w' b0 hb (rowsD d) d d gr (.int .i64 t.z) t.f ∧ OnlyB w w' hb d gr
end Go.Proofs.Ytbhhijdpmpcdnaa

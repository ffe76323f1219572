import Derived.Test.YtpbffbhebdcpbaaResto
import Derived.Test.YtpbffbhebdcpbaaBools
set_option linter.unusedVariables false
namespace Go.Proofs.Ytpbffbhebdcpbaa
open Go.RowKit

theorem one_vb (l : List Bool) : ∀ u ∈ vb l, u.oneCell' = true := by
  intro u hu
  obtain ⟨b, _, rfl⟩ := List.mem_map.1 hu
  rfl
theorem Reads.takeB {w : World} {B n k : Nat} {A : Option Addr} {l : List Bool} (h : Reads w B A n (vb l)) (hk : k ≤ n) : Reads w B A k (vb (l.take k)) := by
  have := h.take hk
  rwa [← List.map_take] at this

def RetSE' (w : World) (E : TypeId) (xs : List Value) (z : Int) (e : Ending) (w' : World) : Prop :=
  ∃ A n c, e = .returned (.tuple #[.slice A n c, .int .i64 z]) ∧ Own w' w.heap.size E (.slice A n c) xs ∧ Below w.heap.size w w'
end Go.Proofs.Ytpbffbhebdcpbaa

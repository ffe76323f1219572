/-
  An operation whose guard holds goes as one without a guard. Over any program.
-/
import Derived.Test.YtdidahafbcddeaaOwn
set_option linter.unusedVariables false
namespace Go.Proofs.Ytdidahafbcddeaa
open Go.RowKit
theorem unguard {P : Program} {ops : Array Oper} {Q : Exit → Act → World → Prop} {a : Act} {w : World} {rest : List Oper} {o : Oper}
    (h : Region.wanted o (yielded ops a.tmps) = true) (h' : wpList P ops Q ({ o with guard := none } :: rest) a w) : wpList P ops Q (o :: rest) a w := by
  unfold wpList at h' ⊢
  rw [if_pos h]
  rw [if_pos (by rfl)] at h'
  exact h'
end Go.Proofs.Ytdidahafbcddeaa

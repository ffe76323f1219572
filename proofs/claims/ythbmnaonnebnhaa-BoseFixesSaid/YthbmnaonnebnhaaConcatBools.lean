import Derived.Test.YthbmnaonnebnhaaProg
import Derived.Test.YthbmnaonnebnhaaAppz
set_option linter.unusedVariables false
namespace Go.Proofs.Ythbmnaonnebnhaa
open Go.RowKit

theorem el_concat_bools : Elem Try.prog 35 4 (.bool false) 1 := Elem.mk' Try.underlying35 (by kernel_rfl) rfl
end Go.Proofs.Ythbmnaonnebnhaa

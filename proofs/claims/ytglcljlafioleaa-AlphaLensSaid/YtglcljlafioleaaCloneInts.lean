import Derived.Test.YtglcljlafioleaaProg
import Derived.Test.YtglcljlafioleaaOwn
set_option linter.unusedVariables false
namespace Go.Proofs.Ytglcljlafioleaa
open Go.RowKit

theorem el_clone_ints : Elem Try.prog 38 3 (.int .i64 0) 8 := Elem.mk' Try.underlying38 (by kernel_rfl) rfl
end Go.Proofs.Ytglcljlafioleaa

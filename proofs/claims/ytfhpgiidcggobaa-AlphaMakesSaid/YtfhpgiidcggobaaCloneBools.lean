import Derived.Test.YtfhpgiidcggobaaProg
import Derived.Test.YtfhpgiidcggobaaOwn
set_option linter.unusedVariables false
namespace Go.Proofs.Ytfhpgiidcggobaa
open Go.RowKit

theorem el_clone_bools : Elem Try.prog 24 4 (.bool false) 1 := Elem.mk' Try.underlying24 (by kernel_rfl) rfl
end Go.Proofs.Ytfhpgiidcggobaa

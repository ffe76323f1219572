import Derived.Test.YtpbffbhebdcpbaaProg
import Derived.Test.YtpbffbhebdcpbaaAppz
set_option linter.unusedVariables false
namespace Go.Proofs.Ytpbffbhebdcpbaa
open Go.RowKit

theorem el_concat_bools : Elem Try.prog 22 4 (.bool false) 1 := Elem.mk' Try.underlying22 (by kernel_rfl) rfl
end Go.Proofs.Ytpbffbhebdcpbaa

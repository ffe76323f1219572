import Derived.Test.YtpbffbhebdcpbaaRestp
set_option linter.unusedVariables false
namespace Go.Proofs.Ytpbffbhebdcpbaa
open Go.RowKit

/-! ### fifteen bits -/
end Go.Proofs.Ytpbffbhebdcpbaa

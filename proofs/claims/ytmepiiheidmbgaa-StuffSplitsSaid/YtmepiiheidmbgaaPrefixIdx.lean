import Derived.Test.YtmepiiheidmbgaaProg
import Derived.Test.YtmepiiheidmbgaaIdx
set_option linter.unusedVariables false
namespace Go.Proofs.Ytmepiiheidmbgaa
open Go.RowKit

end Go.Proofs.Ytmepiiheidmbgaa

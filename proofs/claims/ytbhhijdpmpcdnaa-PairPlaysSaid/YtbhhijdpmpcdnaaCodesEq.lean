import Derived.Test.YtbhhijdpmpcdnaaProg
import Derived.Test.YtbhhijdpmpcdnaaBase
import Derived.BigQuiet
import Derived.Deep.QuietTactic
set_option linter.unusedVariables false
namespace Go.Proofs.Ytbhhijdpmpcdnaa
open Go.RowKit

end Go.Proofs.Ytbhhijdpmpcdnaa

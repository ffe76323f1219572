import Derived.Test.YtdlnbechpbielaaProg
import Derived.Test.YtdlnbechpbielaaOwn
import Derived.Shelf.Lay
import Derived.Shelf.SlSortCmp.Insertion
set_option linter.unusedVariables false
namespace Go.Proofs.Ytdlnbechpbielaa
open Go.RowKit Go.Shelf

shelf_lay_g SlLaysF.n20 Slsf 20 at Try 85 as laysIns
end Go.Proofs.Ytdlnbechpbielaa

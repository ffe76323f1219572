import Derived.Test.YtdidahafbcddeaaProg
import Derived.Test.YtdidahafbcddeaaOwn
import Derived.Shelf.Lay
import Derived.Shelf.SlSortCmp.Insertion
set_option linter.unusedVariables false
namespace Go.Proofs.Ytdidahafbcddeaa
open Go.RowKit Go.Shelf

shelf_lay_g SlLaysF.n20 Slsf 20 at Try 66 as laysIns
end Go.Proofs.Ytdidahafbcddeaa

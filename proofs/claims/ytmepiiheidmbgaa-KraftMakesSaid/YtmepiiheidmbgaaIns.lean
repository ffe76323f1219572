import Derived.Test.YtmepiiheidmbgaaProg
import Derived.Test.YtmepiiheidmbgaaOwn
import Derived.Shelf.Lay
import Derived.Shelf.SlSortCmp.Insertion
set_option linter.unusedVariables false
namespace Go.Proofs.Ytmepiiheidmbgaa
open Go.RowKit Go.Shelf

shelf_lay_g SlLaysF.n20 Slsf 20 at Try 90 as laysIns
end Go.Proofs.Ytmepiiheidmbgaa

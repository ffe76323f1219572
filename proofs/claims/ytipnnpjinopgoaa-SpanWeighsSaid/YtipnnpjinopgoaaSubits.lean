/-
  bits.Len: the shelf's contract, laid here.
-/
import Derived.Test.YtipnnpjinopgoaaProg
import Derived.RowKit
import Derived.Shelf.Lay
import Derived.Shelf.Small.Bits
set_option linter.unusedVariables false
namespace Go.Proofs.Ytipnnpjinopgoaa
open Go.RowKit Go.Shelf

shelf_lay Lays.n129 Nm 129 at Try as lays129
shelf_lay Lays.n125 Nm 125 at Try as lays125
theorem Su.bits_Len (x : Int) (w : World) (h0 : 0 ≤ x) (h1 : x ≤ 18446744073709551615) : Calls Try.prog 18 #[.int .u64 x] w fun e w' => e = .returned (.int .i64 (Lib.bitLen x.toNat)) ∧ w' = w :=
  Any.bits_Len lays125 x w h0 h1
end Go.Proofs.Ytipnnpjinopgoaa

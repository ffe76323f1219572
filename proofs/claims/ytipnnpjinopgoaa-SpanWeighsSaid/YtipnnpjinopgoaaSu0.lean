/-
  slices.Sort at uint32: cmp.Less (the library's walk at int, turned by gen/sortu.py).
-/
import Derived.Test.YtipnnpjinopgoaaProg
import Derived.Lib.Walk
import Derived.Sort.Row
import Derived.Sort.WalkB12
set_option linter.unusedVariables false
set_option linter.unusedSimpArgs false
namespace Go.Proofs.Ytipnnpjinopgoaa
open Go Go.RowKit Go.Sort

abbrev encU : Int → Value := fun x => Value.int .u32 x

set_option maxHeartbeats 6400000 in
set_option maxRecDepth 1000000 in
theorem Su.cmp_isNaN_int (x : Int) (w : World) : Calls Try.prog 42  #[.int .u32 x] w fun e w' => e = .returned (.bool false) ∧ w' = w := by
  go_enter Try.func42, Try.ntmps42
  go_wp2
  go_ret
  exact ⟨by simp, rfl⟩

set_option maxHeartbeats 6400000 in
set_option maxRecDepth 1000000 in
theorem Su.cmp_Less_int (x y : Int) (w : World) : Calls Try.prog 34 #[.int .u32 x, .int .u32 y] w fun e w' => e = .returned (.bool (Sort.ltInt x y)) ∧ w' = w := by
  go_enter Try.func34, Try.ntmps34
  go_wp2_with (go_at_call 42; refine (Su.cmp_isNaN_int _ _).mono ?_; rintro e w' ⟨rfl, rfl⟩)
  go_ret
  exact ⟨rfl, rfl⟩

end Go.Proofs.Ytipnnpjinopgoaa

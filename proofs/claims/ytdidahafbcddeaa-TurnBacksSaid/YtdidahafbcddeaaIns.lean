import Derived.Test.YtdidahafbcddeaaProg
import Derived.Test.YtdidahafbcddeaaOwn
import Derived.Shelf.SlSortCmp.Insertion
set_option linter.unusedVariables false
namespace Go.Proofs.Ytdidahafbcddeaa
open Go.RowKit Go.Shelf

def laysIns_ren : Go.Shelf.Ren := ⟨fun | 20 => 66 | n => n, fun | 24 => 3 | 22 => 32 | 3 => 3 | 25 => 68 | 4 => 4 | 0 => 0 | n => n, fun | n => n⟩
theorem laysIns : Go.Proofs.SlLaysF.n20 Try.prog laysIns_ren := {
  mixed := by kernel_rfl
  f20 := ⟨Try.f66.name, by decide, Try.func66.trans (congrArg some (by kernel_rfl))⟩
  t0 := Try.underlying0
  a0 := Try.isAgg0
  z0 := Try.sizeOf0
  v0 := Try.zeroValue0
  t3 := Try.underlying3
  a3 := Try.isAgg3
  z3 := Try.sizeOf3
  v3 := Try.zeroValue3
  t4 := Try.underlying4
  a4 := Try.isAgg4
  z4 := Try.sizeOf4
  v4 := Try.zeroValue4
  t22 := Try.underlying32
  a22 := Try.isAgg32
  z22 := Try.sizeOf32
  v22 := Try.zeroValue32
  a24 := Try.isAgg3
  z24 := Try.sizeOf3
  t25 := Try.underlying68
  a25 := Try.isAgg68
  z25 := Try.sizeOf68
  v25 := Try.zeroValue68 }
end Go.Proofs.Ytdidahafbcddeaa

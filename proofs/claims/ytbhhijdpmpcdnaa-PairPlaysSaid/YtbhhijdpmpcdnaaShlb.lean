/-
  What the law ShipPlays calls besides: its check of the mode, the comparison, the refusals.
-/
import Derived.Test.YtbhhijdpmpcdnaaShst
import Derived.Test.YtbhhijdpmpcdnaaCodesEq
import Derived.Test.YtbhhijdpmpcdnaaBytesEq
set_option linter.unusedVariables false
namespace Go.Proofs.Ytbhhijdpmpcdnaa
open Go.RowKit

def modeErr (mode : Int) : Int := if mode < 1 ∨ 3 < mode then 6 else 0
theorem law_modeCheck (mode z : Int) (w : World) (h : Hid (modeErr mode = z)) : Calls Try.prog 8 #[.int .i64 mode] w (Ret w (.int .i64 z)) := by
  by_cases h1 : mode < 1
  · obtain rfl : z = 6 := by rw [← h.out]; unfold modeErr; rw [if_pos (.inl h1)]
    clear h
    go_enter Try.func8, Try.ntmps8
    go_wp2
    go_ret
    exact ⟨rfl, rfl⟩
  by_cases h3 : 3 < mode
  · obtain rfl : z = 6 := by rw [← h.out]; unfold modeErr; rw [if_pos (.inr h3)]
    clear h
    go_enter Try.func8, Try.ntmps8
    go_wp2
    go_ret
    exact ⟨rfl, rfl⟩
  · obtain rfl : z = 0 := by rw [← h.out]; unfold modeErr; rw [if_neg (by omega)]
    clear h
    go_enter Try.func8, Try.ntmps8
    go_wp2
    go_ret
    exact ⟨rfl, rfl⟩
end Go.Proofs.Ytbhhijdpmpcdnaa

/-
  points.wrong, quipuref.PointsCheck: the numbers of numbers.
-/
import Derived.Test.YtpbffbhebdcpbaaOwn
import Derived.Test.YtpbffbhebdcpbaaProg
set_option linter.unusedVariables false
namespace Go.Proofs.Ytpbffbhebdcpbaa
open Go.RowKit

def wrongZ (k : Int) (n : Nat) : Int := if 9 < n then 1 else if k < 1 ∨ (n : Int) < k then 3 else 0
theorem points_wrong (k z : Int) (n : Nat) (w : World) (hn : n ≤ maxLen) (hz : Hid (wrongZ k n = z)) :
    Calls Try.prog 29 #[.int .i64 k, .int .i64 (n : Int)] w (Ret w (.int .i64 z)) := by
  by_cases h1 : 9 < n
  · have h10 : (9 : Int) < (n : Int) := by omega
    have HZ : Hid (1 = z) := by unfold Hid; rw [← hz.out]; unfold wrongZ; rw [if_pos h1]
    clear hz h1
    go_enter Try.func29, Try.ntmps29
    go_wp2
    go_ret
    exact ⟨ret_i HZ.out, rfl⟩
  · have h10 : ¬ (9 : Int) < (n : Int) := by omega
    by_cases h2 : k < 1
    · have HZ : Hid (3 = z) := by unfold Hid; rw [← hz.out]; unfold wrongZ; rw [if_neg h1, if_pos (.inl h2)]
      clear hz h1
      go_enter Try.func29, Try.ntmps29
      go_wp2
      go_ret
      exact ⟨ret_i HZ.out, rfl⟩
    · by_cases h3 : (n : Int) < k
      · have HZ : Hid (3 = z) := by unfold Hid; rw [← hz.out]; unfold wrongZ; rw [if_neg h1, if_pos (.inr h3)]
        clear hz h1
        go_enter Try.func29, Try.ntmps29
        go_wp2
        go_ret
        exact ⟨ret_i HZ.out, rfl⟩
      · have HZ : Hid (0 = z) := by unfold Hid; rw [← hz.out]; unfold wrongZ; rw [if_neg h1, if_neg (by omega)]
        clear hz h1
        go_enter Try.func29, Try.ntmps29
        go_wp2
        go_ret
        exact ⟨ret_i HZ.out, rfl⟩
theorem ref_PointsCheck (k z : Int) (A : Option Addr) (n c : Nat) (w : World) (hn : n ≤ maxLen) (hz : Hid (wrongZ k n = z)) :
    Calls Try.prog 17 #[.int .i64 k, .slice A n c] w (Ret w (.int .i64 z)) := by
  by_cases h1 : 9 < n
  · have h10 : (9 : Int) < (n : Int) := by omega
    have HZ : Hid (1 = z) := by unfold Hid; rw [← hz.out]; unfold wrongZ; rw [if_pos h1]
    clear hz h1
    go_enter Try.func17, Try.ntmps17
    go_wp2
    go_ret
    exact ⟨ret_i HZ.out, rfl⟩
  · have h10 : ¬ (9 : Int) < (n : Int) := by omega
    by_cases h2 : k < 1
    · have HZ : Hid (3 = z) := by unfold Hid; rw [← hz.out]; unfold wrongZ; rw [if_neg h1, if_pos (.inl h2)]
      clear hz h1
      go_enter Try.func17, Try.ntmps17
      go_wp2
      go_ret
      exact ⟨ret_i HZ.out, rfl⟩
    · by_cases h3 : (n : Int) < k
      · have HZ : Hid (3 = z) := by unfold Hid; rw [← hz.out]; unfold wrongZ; rw [if_neg h1, if_pos (.inr h3)]
        clear hz h1
        go_enter Try.func17, Try.ntmps17
        go_wp2
        go_ret
        exact ⟨ret_i HZ.out, rfl⟩
      · have HZ : Hid (0 = z) := by unfold Hid; rw [← hz.out]; unfold wrongZ; rw [if_neg h1, if_neg (by omega)]
        clear hz h1
        go_enter Try.func17, Try.ntmps17
        go_wp2
        go_ret
        exact ⟨ret_i HZ.out, rfl⟩
end Go.Proofs.Ytpbffbhebdcpbaa

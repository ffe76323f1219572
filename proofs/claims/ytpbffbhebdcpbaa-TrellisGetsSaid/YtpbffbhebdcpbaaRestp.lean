import Derived.Test.YtpbffbhebdcpbaaRestg
import Derived.Test.YtpbffbhebdcpbaaConcatBools
import Derived.Test.YtpbffbhebdcpbaaDigits
import Derived.Test.YtpbffbhebdcpbaaGuard
set_option linter.unusedVariables false
namespace Go.Proofs.Ytpbffbhebdcpbaa
open Go.RowKit

/-- with d zeros behind it -/
def padL (l : List Bool) (d : Nat) : List Bool := l ++ List.replicate d false
theorem padL_vb (l : List Bool) (d : Nat) : vb l ++ List.replicate d (Value.bool false) = vb (padL l d) := by
  unfold padL vb; rw [List.map_append, List.map_replicate]
theorem padL_len (l : List Bool) (d n : Nat) (h : l.length = n) : (padL l d).length = n + d := by unfold padL; simp [h]
def putL (g d : Nat) (l : List Bool) (n : Nat) : List Bool := l ++ digitsL (restF g d (padL l d) (n + d)) d
theorem putL_vb (g d : Nat) (l : List Bool) (n : Nat) : vb l ++ vb (digitsL (restF g d (padL l d) (n + d)) d) = vb (putL g d l n) := by unfold putL vb; rw [List.map_append]
theorem one_rep (d : Nat) : ∀ u ∈ List.replicate d (Value.bool false), u.oneCell' = true := by
  intro u hu; rw [(List.mem_replicate.1 hu).2]; rfl
end Go.Proofs.Ytpbffbhebdcpbaa

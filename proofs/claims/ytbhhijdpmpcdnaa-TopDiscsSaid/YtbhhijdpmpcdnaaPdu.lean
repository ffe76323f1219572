/-
  The law TopDiscs.
-/
import Derived.Test.YtbhhijdpmpcdnaaPdt
set_option linter.unusedVariables false
namespace Go.Proofs.Ytbhhijdpmpcdnaa
open Go.RowKit

theorem TopDiscs_walk (mode : Int) (d : Int) (A : Option Addr) (n c : Nat) (zss : List (List Int)) (w : World) (_ : (Lit.int .i64 mode).wf = true) (_ : (Lit.int .i64 d).wf = true) (h : ReadsK w w.heap.size 4 A n (zss.map fun zs => List.zipWith Value.int [.i64, .i64, .i64, .u8] zs))
    (wf : ∀ zs ∈ zss, zs.length = [IntKind.i64, IntKind.i64, IntKind.i64, IntKind.u8].length ∧ ∀ (j : Nat) (z : Int) (k : IntKind), zs[j]? = some z → [IntKind.i64, IntKind.i64, IntKind.i64, IntKind.u8][j]? = some k → (Lit.int k z).wf = true) (hm : n * 32 ≤ reachBytes) :
    Calls Try.prog 6 #[.int .i64 mode, .int .i64 d, .slice A n c] w (LawTrue w) := by
  by_cases hd : 1 ≤ mode ∧ mode ≤ 3 ∧ 3 ≤ d ∧ d ≤ 6 ∧ n ≤ 100
  · obtain ⟨h1, h2⟩ := stOfP_is zss wf
    rw [h1] at h
    obtain ⟨M, rfl⟩ := Int.eq_ofNat_of_zero_le (show 0 ≤ mode by omega)
    obtain ⟨D, rfl⟩ := Int.eq_ofNat_of_zero_le (show 0 ≤ d by omega)
    exact discs_good M D A n c (stOfP zss) w h h2 (by omega) (by omega) (by omega) (by omega) (by omega)
  · exact discs_err mode d A n c w hd
end Go.Proofs.Ytbhhijdpmpcdnaa

/-
  The law TopSwitch, for what is read of at most 1048576 values.
-/
import Derived.Test.YtbhhijdpmpcdnaaSwn
set_option linter.unusedVariables false
namespace Go.Proofs.Ytbhhijdpmpcdnaa
open Go.RowKit

theorem TopSwitch_walk (mode : Int) (d : Int) (A : Option Addr) (n c : Nat) (zss : List (List Int)) (block : Int) (A2 : Option Addr) (m c2 : Nat) (more : List Nat) (w : World) (h : ReadsK w w.heap.size 4 A n (zss.map fun zs => List.zipWith Value.int [.i64, .i64, .i64, .u8] zs))
    (wf : ∀ zs ∈ zss, zs.length = [IntKind.i64, IntKind.i64, IntKind.i64, IntKind.u8].length ∧ ∀ (j : Nat) (z : Int) (k : IntKind), zs[j]? = some z → [IntKind.i64, IntKind.i64, IntKind.i64, IntKind.u8][j]? = some k → (Lit.int k z).wf = true) (hn : n ≤ 1048576)
    (h2 : Reads w w.heap.size A2 m (vn .u8 more)) (hm : ∀ x ∈ more, x < if IntKind.u8 = .u8 then 256 else 4294967296) (hm2 : m ≤ 1048576) :
    Calls Try.prog 5 #[.int .i64 mode, .int .i64 d, .slice A n c, .int .i64 block, .slice A2 m c2] w (LawTrue w) := by
  obtain ⟨e1, e2⟩ := stOfP_is zss wf
  rw [e1] at h
  exact switch_walk mode d A n c (stOfP zss) block A2 m c2 more w h e2 h2 (fun x hx => hm x hx) hn hm2
end Go.Proofs.Ytbhhijdpmpcdnaa

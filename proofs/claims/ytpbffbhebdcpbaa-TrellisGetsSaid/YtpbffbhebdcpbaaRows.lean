/-
  No cell of these rows narrows 'for every input' (looked for: loops, veiled, ifaces, maps, wideKeys, modest, calm, conditions, laid).
  DERIVED. THE GIVEN ROWS OF THIS SEAT. 4 by the template 'for every input the law returns true; each argument reads behind the call as it read before'; 0 by the template 'total and deterministic' (their statements: YtpbffbhebdcpbaaTotals.lean).
  GIVEN WITH THE SEED: the statements are not yours to turn. If you find one false, say at which input.
  Laid BY PROGRAM, IN A SANDBOX (cutbox-rows.mjs): the forced cells as the released guide's own fill.sh prints them over the translation eb43166dc8696138… (all of the seat's roots in one cut). By AI agents, Wed Nov 11 2026. No macro, syntax, notation, axiom, sorry.
-/
import Derived.Test.YtpbffbhebdcpbaaChecked
import GoSem.Claim
import GoSem.ClaimJoined
import GoSem.ClaimMapViews
import Derived.JoinedTies
import Derived.KernelRfl
namespace Go.Proofs.Ytpbffbhebdcpbaa
/- THE CELL 'sum', in the pinned program and in every row, IS THE sha256 OF THE DUMP (.gsa) THAT YtpbffbhebdcpbaaProg.lean LOADS. Nothing in Lean hashes anything: it is a label: what it is worth is what the hold of that sum in a sandbox is worth. -/
noncomputable def Try.pinned : Pinned := { name := "ytpbffbhebdcpbaa", sum := "eb43166dc8696138b7397c573e05d1c204707933ffade28f5e429459feb030b5", checked := Try.checked }
namespace Rows
def none {H : Type} : Left H := { results := [], args := [] }

/-- 'quipulaw.TrellisGets': WHATEVER THE INPUT: true; the input reads as it did. -/
def trellisGetsSpec : ChangeSpec := { name := "trellisGets", fn := fun _ => fun
  | [d] => { results := [.lit (.bool true)], args := [d] }
  | _ => none }
def trellisGetsRow : OpenClaim := { program := "ytpbffbhebdcpbaa", sum := "eb43166dc8696138b7397c573e05d1c204707933ffade28f5e429459feb030b5", func := "quipu/quipulaw.TrellisGets", spec := "trellisGets", plainKeys := false, apart := false }
def TrellisGetsSaid : Prop := trellisGetsRow.holds Try.pinned (OpenSpec.ofChange trellisGetsSpec)

/-- ITS FALSE NEIGHBOUR: 'it returns false'. Refute it at one input. -/
def trellisGetsWrong : ChangeSpec := { name := "trellisGets", fn := fun _ => fun
  | [d] => { results := [.lit (.bool false)], args := [d] }
  | _ => none }
def TrellisGetsWrongFalsely : Prop := trellisGetsRow.holds Try.pinned (OpenSpec.ofChange trellisGetsWrong)

/-- 'quipulaw.UniqueTells': WHATEVER THE INPUT: true; the input reads as it did. -/
def uniqueTellsSpec : ChangeSpec := { name := "uniqueTells", fn := fun _ => fun
  | [d] => { results := [.lit (.bool true)], args := [d] }
  | _ => none }
def uniqueTellsRow : OpenClaim := { program := "ytpbffbhebdcpbaa", sum := "eb43166dc8696138b7397c573e05d1c204707933ffade28f5e429459feb030b5", func := "quipu/quipulaw.UniqueTells", spec := "uniqueTells", unfollowed := true, recurses := true, plainKeys := false, apart := false }
def UniqueTellsSaid : Prop := uniqueTellsRow.holds Try.pinned (OpenSpec.ofChange uniqueTellsSpec)

/-- ITS FALSE NEIGHBOUR: 'it returns false'. Refute it at one input. -/
def uniqueTellsWrong : ChangeSpec := { name := "uniqueTells", fn := fun _ => fun
  | [d] => { results := [.lit (.bool false)], args := [d] }
  | _ => none }
def UniqueTellsWrongFalsely : Prop := uniqueTellsRow.holds Try.pinned (OpenSpec.ofChange uniqueTellsWrong)

/-- 'quipulaw.UniqueTwice': WHATEVER THE INPUT: true; the input reads as it did. -/
def uniqueTwiceSpec : ChangeSpec := { name := "uniqueTwice", fn := fun _ => fun
  | [d] => { results := [.lit (.bool true)], args := [d] }
  | _ => none }
def uniqueTwiceRow : OpenClaim := { program := "ytpbffbhebdcpbaa", sum := "eb43166dc8696138b7397c573e05d1c204707933ffade28f5e429459feb030b5", func := "quipu/quipulaw.UniqueTwice", spec := "uniqueTwice", unfollowed := true, recurses := true, plainKeys := false, apart := false }
def UniqueTwiceSaid : Prop := uniqueTwiceRow.holds Try.pinned (OpenSpec.ofChange uniqueTwiceSpec)

/-- ITS FALSE NEIGHBOUR: 'it returns false'. Refute it at one input. -/
def uniqueTwiceWrong : ChangeSpec := { name := "uniqueTwice", fn := fun _ => fun
  | [d] => { results := [.lit (.bool false)], args := [d] }
  | _ => none }
def UniqueTwiceWrongFalsely : Prop := uniqueTwiceRow.holds Try.pinned (OpenSpec.ofChange uniqueTwiceWrong)

/-- 'quipulaw.PointsFixes': WHATEVER THE INPUT: true; the input reads as it did. -/
def pointsFixesSpec : ChangeSpec := { name := "pointsFixes", fn := fun _ => fun
  | [d1, d2] => { results := [.lit (.bool true)], args := [d1, d2] }
  | _ => none }
def pointsFixesRow : OpenClaim := { program := "ytpbffbhebdcpbaa", sum := "eb43166dc8696138b7397c573e05d1c204707933ffade28f5e429459feb030b5", func := "quipu/quipulaw.PointsFixes", spec := "pointsFixes", unfollowed := true, recurses := true, plainKeys := false, apart := false }
def PointsFixesSaid : Prop := pointsFixesRow.holds Try.pinned (OpenSpec.ofChange pointsFixesSpec)

/-- ITS FALSE NEIGHBOUR: 'it returns false'. Refute it at one input. -/
def pointsFixesWrong : ChangeSpec := { name := "pointsFixes", fn := fun _ => fun
  | [d1, d2] => { results := [.lit (.bool false)], args := [d1, d2] }
  | _ => none }
def PointsFixesWrongFalsely : Prop := pointsFixesRow.holds Try.pinned (OpenSpec.ofChange pointsFixesWrong)

/- THE SECOND FORM. 'bulk': how many values and letters a reading holds, each counted each time it is reached (what is shared counts as often as it is met; a slice's spare places count too). A statement '..UptoSaid' is the law's where the arguments, and the package variables that the reading takes, are together of bulk at most 1048576: NARROWER than '..Said'. Prove '..Said' where nothing that the law and all that it calls make is longer than what came in: it says more and counts as full. Else prove '..UptoSaid'. A law counts once. -/
mutual
def uptoBulk {H : Type} : DataW H → Nat
  | .lit (.string bytes) => bytes.length + 1
  | .lit _ => 1
  | .nil => 1
  | .ptr d => uptoBulk d + 1
  | .slice elems spare => uptoBulkAll elems + uptoBulkAll spare + 1
  | .agg parts => uptoBulkAll parts + 1
  | .iface _ d => uptoBulk d + 1
  | .map entries => uptoBulkEntries entries + 1
  | .held _ => 1
def uptoBulkAll {H : Type} : List (DataW H) → Nat
  | [] => 0
  | d :: r => uptoBulk d + uptoBulkAll r
def uptoBulkEntries {H : Type} : List (Lit × DataW H) → Nat
  | [] => 0
  | x :: r => uptoBulkEntry x + uptoBulkEntries r
def uptoBulkEntry {H : Type} : Lit × DataW H → Nat
  | (.string bytes, d) => bytes.length + uptoBulk d + 1
  | (_, d) => uptoBulk d + 1
 end
def uptoSmall : (H : Type) → List (DataW H) → Bool := fun _ ds => decide (uptoBulkAll ds ≤ 1048576)
def OpenSpec.upto (s : _root_.Go.ChangeSpec) : _root_.Go.OpenSpec := { _root_.Go.OpenSpec.ofChange s with cond := some uptoSmall }

/-- 'quipulaw.TrellisGets', WHERE WHAT IT READS IS OF BULK AT MOST 1048576: true; the input reads as it did. -/
def trellisGetsUptoRow : OpenClaim := { program := "ytpbffbhebdcpbaa", sum := "eb43166dc8696138b7397c573e05d1c204707933ffade28f5e429459feb030b5", func := "quipu/quipulaw.TrellisGets", spec := "trellisGets", plainKeys := false, apart := false, narrowed := true }
def TrellisGetsUptoSaid : Prop := trellisGetsUptoRow.holds Try.pinned (OpenSpec.upto trellisGetsSpec)

/-- 'quipulaw.UniqueTells', WHERE WHAT IT READS IS OF BULK AT MOST 1048576: true; the input reads as it did. -/
def uniqueTellsUptoRow : OpenClaim := { program := "ytpbffbhebdcpbaa", sum := "eb43166dc8696138b7397c573e05d1c204707933ffade28f5e429459feb030b5", func := "quipu/quipulaw.UniqueTells", spec := "uniqueTells", unfollowed := true, recurses := true, plainKeys := false, apart := false, narrowed := true }
def UniqueTellsUptoSaid : Prop := uniqueTellsUptoRow.holds Try.pinned (OpenSpec.upto uniqueTellsSpec)

/-- 'quipulaw.UniqueTwice', WHERE WHAT IT READS IS OF BULK AT MOST 1048576: true; the input reads as it did. -/
def uniqueTwiceUptoRow : OpenClaim := { program := "ytpbffbhebdcpbaa", sum := "eb43166dc8696138b7397c573e05d1c204707933ffade28f5e429459feb030b5", func := "quipu/quipulaw.UniqueTwice", spec := "uniqueTwice", unfollowed := true, recurses := true, plainKeys := false, apart := false, narrowed := true }
def UniqueTwiceUptoSaid : Prop := uniqueTwiceUptoRow.holds Try.pinned (OpenSpec.upto uniqueTwiceSpec)

/-- 'quipulaw.PointsFixes', WHERE WHAT IT READS IS OF BULK AT MOST 1048576: true; the input reads as it did. -/
def pointsFixesUptoRow : OpenClaim := { program := "ytpbffbhebdcpbaa", sum := "eb43166dc8696138b7397c573e05d1c204707933ffade28f5e429459feb030b5", func := "quipu/quipulaw.PointsFixes", spec := "pointsFixes", unfollowed := true, recurses := true, plainKeys := false, apart := false, narrowed := true }
def PointsFixesUptoSaid : Prop := pointsFixesUptoRow.holds Try.pinned (OpenSpec.upto pointsFixesSpec)

end Rows
end Go.Proofs.Ytpbffbhebdcpbaa

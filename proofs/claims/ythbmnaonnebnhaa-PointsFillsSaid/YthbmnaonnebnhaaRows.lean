/-
  No cell of these rows narrows 'for every input' (looked for: loops, veiled, ifaces, maps, wideKeys, modest, calm, conditions, laid).
  DERIVED. THE GIVEN ROWS OF THIS SEAT. 11 by the template 'for every input the law returns true; each argument reads behind the call as it read before'; 0 by the template 'total and deterministic' (their statements: YthbmnaonnebnhaaTotals.lean).
  GIVEN WITH THE SEED: the statements are not yours to turn. If you find one false, say at which input.
  Laid BY PROGRAM, IN A SANDBOX (cutbox-rows.mjs): the forced cells as the released guide's own fill.sh prints them over the translation e7740b65ad913ed6… (all of the seat's roots in one cut). By AI agents, Wed Nov 11 2026. No macro, syntax, notation, axiom, sorry.
-/
import Derived.Test.YthbmnaonnebnhaaChecked
import GoSem.Claim
import GoSem.ClaimJoined
import GoSem.ClaimMapViews
import Derived.JoinedTies
import Derived.KernelRfl
namespace Go.Proofs.Ythbmnaonnebnhaa
/- THE CELL 'sum', in the pinned program and in every row, IS THE sha256 OF THE DUMP (.gsa) THAT YthbmnaonnebnhaaProg.lean LOADS. Nothing in Lean hashes anything: it is a label: what it is worth is what the hold of that sum in a sandbox is worth. -/
noncomputable def Try.pinned : Pinned := { name := "ythbmnaonnebnhaa", sum := "e7740b65ad913ed618783bdc81fe96140cc1be1422785f461137e5e4617e3b6f", checked := Try.checked }
namespace Rows
def none {H : Type} : Left H := { results := [], args := [] }

/-- 'quipulaw.FieldMuls': WHATEVER THE INPUT: true; the input reads as it did. -/
def fieldMulsSpec : ChangeSpec := { name := "fieldMuls", fn := fun _ => fun
  | [d1, d2] => { results := [.lit (.bool true)], args := [d1, d2] }
  | _ => none }
def fieldMulsRow : OpenClaim := { program := "ythbmnaonnebnhaa", sum := "e7740b65ad913ed618783bdc81fe96140cc1be1422785f461137e5e4617e3b6f", func := "quipu/quipulaw.FieldMuls", spec := "fieldMuls", unfollowed := true, recurses := true, apart := false }
def FieldMulsSaid : Prop := fieldMulsRow.holds Try.pinned (OpenSpec.ofChange fieldMulsSpec)

/-- ITS FALSE NEIGHBOUR: 'it returns false'. Refute it at one input. -/
def fieldMulsWrong : ChangeSpec := { name := "fieldMuls", fn := fun _ => fun
  | [d1, d2] => { results := [.lit (.bool false)], args := [d1, d2] }
  | _ => none }
def FieldMulsWrongFalsely : Prop := fieldMulsRow.holds Try.pinned (OpenSpec.ofChange fieldMulsWrong)

/-- 'quipulaw.FieldInverts': WHATEVER THE INPUT: true; the input reads as it did. -/
def fieldInvertsSpec : ChangeSpec := { name := "fieldInverts", fn := fun _ => fun
  | [d] => { results := [.lit (.bool true)], args := [d] }
  | _ => none }
def fieldInvertsRow : OpenClaim := { program := "ythbmnaonnebnhaa", sum := "e7740b65ad913ed618783bdc81fe96140cc1be1422785f461137e5e4617e3b6f", func := "quipu/quipulaw.FieldInverts", spec := "fieldInverts", unfollowed := true, recurses := true, apart := false }
def FieldInvertsSaid : Prop := fieldInvertsRow.holds Try.pinned (OpenSpec.ofChange fieldInvertsSpec)

/-- ITS FALSE NEIGHBOUR: 'it returns false'. Refute it at one input. -/
def fieldInvertsWrong : ChangeSpec := { name := "fieldInverts", fn := fun _ => fun
  | [d] => { results := [.lit (.bool false)], args := [d] }
  | _ => none }
def FieldInvertsWrongFalsely : Prop := fieldInvertsRow.holds Try.pinned (OpenSpec.ofChange fieldInvertsWrong)

/-- 'quipulaw.FieldPows': WHATEVER THE INPUT: true; the input reads as it did. -/
def fieldPowsSpec : ChangeSpec := { name := "fieldPows", fn := fun _ => fun
  | [d1, d2] => { results := [.lit (.bool true)], args := [d1, d2] }
  | _ => none }
def fieldPowsRow : OpenClaim := { program := "ythbmnaonnebnhaa", sum := "e7740b65ad913ed618783bdc81fe96140cc1be1422785f461137e5e4617e3b6f", func := "quipu/quipulaw.FieldPows", spec := "fieldPows", unfollowed := true, recurses := true, apart := false }
def FieldPowsSaid : Prop := fieldPowsRow.holds Try.pinned (OpenSpec.ofChange fieldPowsSpec)

/-- ITS FALSE NEIGHBOUR: 'it returns false'. Refute it at one input. -/
def fieldPowsWrong : ChangeSpec := { name := "fieldPows", fn := fun _ => fun
  | [d1, d2] => { results := [.lit (.bool false)], args := [d1, d2] }
  | _ => none }
def FieldPowsWrongFalsely : Prop := fieldPowsRow.holds Try.pinned (OpenSpec.ofChange fieldPowsWrong)

/-- 'quipulaw.FieldAts': WHATEVER THE INPUT: true; the input reads as it did. -/
def fieldAtsSpec : ChangeSpec := { name := "fieldAts", fn := fun _ => fun
  | [d1, d2] => { results := [.lit (.bool true)], args := [d1, d2] }
  | _ => none }
def fieldAtsRow : OpenClaim := { program := "ythbmnaonnebnhaa", sum := "e7740b65ad913ed618783bdc81fe96140cc1be1422785f461137e5e4617e3b6f", func := "quipu/quipulaw.FieldAts", spec := "fieldAts", unfollowed := true, recurses := true, apart := false }
def FieldAtsSaid : Prop := fieldAtsRow.holds Try.pinned (OpenSpec.ofChange fieldAtsSpec)

/-- ITS FALSE NEIGHBOUR: 'it returns false'. Refute it at one input. -/
def fieldAtsWrong : ChangeSpec := { name := "fieldAts", fn := fun _ => fun
  | [d1, d2] => { results := [.lit (.bool false)], args := [d1, d2] }
  | _ => none }
def FieldAtsWrongFalsely : Prop := fieldAtsRow.holds Try.pinned (OpenSpec.ofChange fieldAtsWrong)

/-- 'quipulaw.BoseFixes': WHATEVER THE INPUT: true; the input reads as it did. -/
def boseFixesSpec : ChangeSpec := { name := "boseFixes", fn := fun _ => fun
  | [d] => { results := [.lit (.bool true)], args := [d] }
  | _ => none }
def boseFixesRow : OpenClaim := { program := "ythbmnaonnebnhaa", sum := "e7740b65ad913ed618783bdc81fe96140cc1be1422785f461137e5e4617e3b6f", func := "quipu/quipulaw.BoseFixes", spec := "boseFixes", apart := false }
def BoseFixesSaid : Prop := boseFixesRow.holds Try.pinned (OpenSpec.ofChange boseFixesSpec)

/-- ITS FALSE NEIGHBOUR: 'it returns false'. Refute it at one input. -/
def boseFixesWrong : ChangeSpec := { name := "boseFixes", fn := fun _ => fun
  | [d] => { results := [.lit (.bool false)], args := [d] }
  | _ => none }
def BoseFixesWrongFalsely : Prop := boseFixesRow.holds Try.pinned (OpenSpec.ofChange boseFixesWrong)

/-- 'quipulaw.DoublePuts': WHATEVER THE INPUT: true; the input reads as it did. -/
def doublePutsSpec : ChangeSpec := { name := "doublePuts", fn := fun _ => fun
  | [d] => { results := [.lit (.bool true)], args := [d] }
  | _ => none }
def doublePutsRow : OpenClaim := { program := "ythbmnaonnebnhaa", sum := "e7740b65ad913ed618783bdc81fe96140cc1be1422785f461137e5e4617e3b6f", func := "quipu/quipulaw.DoublePuts", spec := "doublePuts", unfollowed := true, recurses := true, apart := false }
def DoublePutsSaid : Prop := doublePutsRow.holds Try.pinned (OpenSpec.ofChange doublePutsSpec)

/-- ITS FALSE NEIGHBOUR: 'it returns false'. Refute it at one input. -/
def doublePutsWrong : ChangeSpec := { name := "doublePuts", fn := fun _ => fun
  | [d] => { results := [.lit (.bool false)], args := [d] }
  | _ => none }
def DoublePutsWrongFalsely : Prop := doublePutsRow.holds Try.pinned (OpenSpec.ofChange doublePutsWrong)

/-- 'quipulaw.PointsPuts': WHATEVER THE INPUT: true; the input reads as it did. -/
def pointsPutsSpec : ChangeSpec := { name := "pointsPuts", fn := fun _ => fun
  | [d1, d2] => { results := [.lit (.bool true)], args := [d1, d2] }
  | _ => none }
def pointsPutsRow : OpenClaim := { program := "ythbmnaonnebnhaa", sum := "e7740b65ad913ed618783bdc81fe96140cc1be1422785f461137e5e4617e3b6f", func := "quipu/quipulaw.PointsPuts", spec := "pointsPuts", unfollowed := true, recurses := true, apart := false }
def PointsPutsSaid : Prop := pointsPutsRow.holds Try.pinned (OpenSpec.ofChange pointsPutsSpec)

/-- ITS FALSE NEIGHBOUR: 'it returns false'. Refute it at one input. -/
def pointsPutsWrong : ChangeSpec := { name := "pointsPuts", fn := fun _ => fun
  | [d1, d2] => { results := [.lit (.bool false)], args := [d1, d2] }
  | _ => none }
def PointsPutsWrongFalsely : Prop := pointsPutsRow.holds Try.pinned (OpenSpec.ofChange pointsPutsWrong)

/-- 'quipulaw.DoubleFills': WHATEVER THE INPUT: true; the input reads as it did. -/
def doubleFillsSpec : ChangeSpec := { name := "doubleFills", fn := fun _ => fun
  | [d1, d2] => { results := [.lit (.bool true)], args := [d1, d2] }
  | _ => none }
def doubleFillsRow : OpenClaim := { program := "ythbmnaonnebnhaa", sum := "e7740b65ad913ed618783bdc81fe96140cc1be1422785f461137e5e4617e3b6f", func := "quipu/quipulaw.DoubleFills", spec := "doubleFills", unfollowed := true, recurses := true, apart := false }
def DoubleFillsSaid : Prop := doubleFillsRow.holds Try.pinned (OpenSpec.ofChange doubleFillsSpec)

/-- ITS FALSE NEIGHBOUR: 'it returns false'. Refute it at one input. -/
def doubleFillsWrong : ChangeSpec := { name := "doubleFills", fn := fun _ => fun
  | [d1, d2] => { results := [.lit (.bool false)], args := [d1, d2] }
  | _ => none }
def DoubleFillsWrongFalsely : Prop := doubleFillsRow.holds Try.pinned (OpenSpec.ofChange doubleFillsWrong)

/-- 'quipulaw.PointsFills': WHATEVER THE INPUT: true; the input reads as it did. -/
def pointsFillsSpec : ChangeSpec := { name := "pointsFills", fn := fun _ => fun
  | [d1, d2, d3] => { results := [.lit (.bool true)], args := [d1, d2, d3] }
  | _ => none }
def pointsFillsRow : OpenClaim := { program := "ythbmnaonnebnhaa", sum := "e7740b65ad913ed618783bdc81fe96140cc1be1422785f461137e5e4617e3b6f", func := "quipu/quipulaw.PointsFills", spec := "pointsFills", unfollowed := true, recurses := true, apart := false }
def PointsFillsSaid : Prop := pointsFillsRow.holds Try.pinned (OpenSpec.ofChange pointsFillsSpec)

/-- ITS FALSE NEIGHBOUR: 'it returns false'. Refute it at one input. -/
def pointsFillsWrong : ChangeSpec := { name := "pointsFills", fn := fun _ => fun
  | [d1, d2, d3] => { results := [.lit (.bool false)], args := [d1, d2, d3] }
  | _ => none }
def PointsFillsWrongFalsely : Prop := pointsFillsRow.holds Try.pinned (OpenSpec.ofChange pointsFillsWrong)

/-- 'quipulaw.PointsFixes': WHATEVER THE INPUT: true; the input reads as it did. -/
def pointsFixesSpec : ChangeSpec := { name := "pointsFixes", fn := fun _ => fun
  | [d1, d2] => { results := [.lit (.bool true)], args := [d1, d2] }
  | _ => none }
def pointsFixesRow : OpenClaim := { program := "ythbmnaonnebnhaa", sum := "e7740b65ad913ed618783bdc81fe96140cc1be1422785f461137e5e4617e3b6f", func := "quipu/quipulaw.PointsFixes", spec := "pointsFixes", unfollowed := true, recurses := true, apart := false }
def PointsFixesSaid : Prop := pointsFixesRow.holds Try.pinned (OpenSpec.ofChange pointsFixesSpec)

/-- ITS FALSE NEIGHBOUR: 'it returns false'. Refute it at one input. -/
def pointsFixesWrong : ChangeSpec := { name := "pointsFixes", fn := fun _ => fun
  | [d1, d2] => { results := [.lit (.bool false)], args := [d1, d2] }
  | _ => none }
def PointsFixesWrongFalsely : Prop := pointsFixesRow.holds Try.pinned (OpenSpec.ofChange pointsFixesWrong)

/-- 'quipulaw.DropFills': WHATEVER THE INPUT: true; the input reads as it did. -/
def dropFillsSpec : ChangeSpec := { name := "dropFills", fn := fun _ => fun
  | [d1, d2] => { results := [.lit (.bool true)], args := [d1, d2] }
  | _ => none }
def dropFillsRow : OpenClaim := { program := "ythbmnaonnebnhaa", sum := "e7740b65ad913ed618783bdc81fe96140cc1be1422785f461137e5e4617e3b6f", func := "quipu/quipulaw.DropFills", spec := "dropFills", inPlace := ["slices.overlaps[bool]"], apart := false }
def DropFillsSaid : Prop := dropFillsRow.holds Try.pinned (OpenSpec.ofChange dropFillsSpec)

/-- ITS FALSE NEIGHBOUR: 'it returns false'. Refute it at one input. -/
def dropFillsWrong : ChangeSpec := { name := "dropFills", fn := fun _ => fun
  | [d1, d2] => { results := [.lit (.bool false)], args := [d1, d2] }
  | _ => none }
def DropFillsWrongFalsely : Prop := dropFillsRow.holds Try.pinned (OpenSpec.ofChange dropFillsWrong)

/- THE SECOND FORM. 'bulk': how many values and letters a reading holds, each counted each time it is reached (what is shared counts as often as it is met; a slice's spare places count too). A statement '..UptoSaid' is the law's where the arguments, and the package variables that the reading takes, are together of bulk at most 1048576: NARROWER than '..Said'. Prove '..Said' where nothing that the law and all that it calls make is longer than what came in: it says more and counts as full. Else prove '..UptoSaid'. A law counts once. -/
mutual
def uptoBulk {H : Type} : DataW H → Nat
  | .lit (.string bytes) => bytes.length + 1
  | .lit _ => 1
  | .nil => 1
  | .ptr d => uptoBulk d + 1
  | .slice elems spare => uptoBulkAll elems + uptoBulkAll spare + 1
  | .agg parts => uptoBulkAll parts + 1
  | .iface _ d => uptoBulk d + 1
  | .map entries => uptoBulkEntries entries + 1
  | .held _ => 1
def uptoBulkAll {H : Type} : List (DataW H) → Nat
  | [] => 0
  | d :: r => uptoBulk d + uptoBulkAll r
def uptoBulkEntries {H : Type} : List (Lit × DataW H) → Nat
  | [] => 0
  | x :: r => uptoBulkEntry x + uptoBulkEntries r
def uptoBulkEntry {H : Type} : Lit × DataW H → Nat
  | (.string bytes, d) => bytes.length + uptoBulk d + 1
  | (_, d) => uptoBulk d + 1
 end
def uptoSmall : (H : Type) → List (DataW H) → Bool := fun _ ds => decide (uptoBulkAll ds ≤ 1048576)
def OpenSpec.upto (s : _root_.Go.ChangeSpec) : _root_.Go.OpenSpec := { _root_.Go.OpenSpec.ofChange s with cond := some uptoSmall }

/-- 'quipulaw.FieldMuls', WHERE WHAT IT READS IS OF BULK AT MOST 1048576: true; the input reads as it did. -/
def fieldMulsUptoRow : OpenClaim := { program := "ythbmnaonnebnhaa", sum := "e7740b65ad913ed618783bdc81fe96140cc1be1422785f461137e5e4617e3b6f", func := "quipu/quipulaw.FieldMuls", spec := "fieldMuls", unfollowed := true, recurses := true, apart := false, narrowed := true }
def FieldMulsUptoSaid : Prop := fieldMulsUptoRow.holds Try.pinned (OpenSpec.upto fieldMulsSpec)

/-- 'quipulaw.FieldInverts', WHERE WHAT IT READS IS OF BULK AT MOST 1048576: true; the input reads as it did. -/
def fieldInvertsUptoRow : OpenClaim := { program := "ythbmnaonnebnhaa", sum := "e7740b65ad913ed618783bdc81fe96140cc1be1422785f461137e5e4617e3b6f", func := "quipu/quipulaw.FieldInverts", spec := "fieldInverts", unfollowed := true, recurses := true, apart := false, narrowed := true }
def FieldInvertsUptoSaid : Prop := fieldInvertsUptoRow.holds Try.pinned (OpenSpec.upto fieldInvertsSpec)

/-- 'quipulaw.FieldPows', WHERE WHAT IT READS IS OF BULK AT MOST 1048576: true; the input reads as it did. -/
def fieldPowsUptoRow : OpenClaim := { program := "ythbmnaonnebnhaa", sum := "e7740b65ad913ed618783bdc81fe96140cc1be1422785f461137e5e4617e3b6f", func := "quipu/quipulaw.FieldPows", spec := "fieldPows", unfollowed := true, recurses := true, apart := false, narrowed := true }
def FieldPowsUptoSaid : Prop := fieldPowsUptoRow.holds Try.pinned (OpenSpec.upto fieldPowsSpec)

/-- 'quipulaw.FieldAts', WHERE WHAT IT READS IS OF BULK AT MOST 1048576: true; the input reads as it did. -/
def fieldAtsUptoRow : OpenClaim := { program := "ythbmnaonnebnhaa", sum := "e7740b65ad913ed618783bdc81fe96140cc1be1422785f461137e5e4617e3b6f", func := "quipu/quipulaw.FieldAts", spec := "fieldAts", unfollowed := true, recurses := true, apart := false, narrowed := true }
def FieldAtsUptoSaid : Prop := fieldAtsUptoRow.holds Try.pinned (OpenSpec.upto fieldAtsSpec)

/-- 'quipulaw.BoseFixes', WHERE WHAT IT READS IS OF BULK AT MOST 1048576: true; the input reads as it did. -/
def boseFixesUptoRow : OpenClaim := { program := "ythbmnaonnebnhaa", sum := "e7740b65ad913ed618783bdc81fe96140cc1be1422785f461137e5e4617e3b6f", func := "quipu/quipulaw.BoseFixes", spec := "boseFixes", apart := false, narrowed := true }
def BoseFixesUptoSaid : Prop := boseFixesUptoRow.holds Try.pinned (OpenSpec.upto boseFixesSpec)

/-- 'quipulaw.DoublePuts', WHERE WHAT IT READS IS OF BULK AT MOST 1048576: true; the input reads as it did. -/
def doublePutsUptoRow : OpenClaim := { program := "ythbmnaonnebnhaa", sum := "e7740b65ad913ed618783bdc81fe96140cc1be1422785f461137e5e4617e3b6f", func := "quipu/quipulaw.DoublePuts", spec := "doublePuts", unfollowed := true, recurses := true, apart := false, narrowed := true }
def DoublePutsUptoSaid : Prop := doublePutsUptoRow.holds Try.pinned (OpenSpec.upto doublePutsSpec)

/-- 'quipulaw.PointsPuts', WHERE WHAT IT READS IS OF BULK AT MOST 1048576: true; the input reads as it did. -/
def pointsPutsUptoRow : OpenClaim := { program := "ythbmnaonnebnhaa", sum := "e7740b65ad913ed618783bdc81fe96140cc1be1422785f461137e5e4617e3b6f", func := "quipu/quipulaw.PointsPuts", spec := "pointsPuts", unfollowed := true, recurses := true, apart := false, narrowed := true }
def PointsPutsUptoSaid : Prop := pointsPutsUptoRow.holds Try.pinned (OpenSpec.upto pointsPutsSpec)

/-- 'quipulaw.DoubleFills', WHERE WHAT IT READS IS OF BULK AT MOST 1048576: true; the input reads as it did. -/
def doubleFillsUptoRow : OpenClaim := { program := "ythbmnaonnebnhaa", sum := "e7740b65ad913ed618783bdc81fe96140cc1be1422785f461137e5e4617e3b6f", func := "quipu/quipulaw.DoubleFills", spec := "doubleFills", unfollowed := true, recurses := true, apart := false, narrowed := true }
def DoubleFillsUptoSaid : Prop := doubleFillsUptoRow.holds Try.pinned (OpenSpec.upto doubleFillsSpec)

/-- 'quipulaw.PointsFills', WHERE WHAT IT READS IS OF BULK AT MOST 1048576: true; the input reads as it did. -/
def pointsFillsUptoRow : OpenClaim := { program := "ythbmnaonnebnhaa", sum := "e7740b65ad913ed618783bdc81fe96140cc1be1422785f461137e5e4617e3b6f", func := "quipu/quipulaw.PointsFills", spec := "pointsFills", unfollowed := true, recurses := true, apart := false, narrowed := true }
def PointsFillsUptoSaid : Prop := pointsFillsUptoRow.holds Try.pinned (OpenSpec.upto pointsFillsSpec)

/-- 'quipulaw.PointsFixes', WHERE WHAT IT READS IS OF BULK AT MOST 1048576: true; the input reads as it did. -/
def pointsFixesUptoRow : OpenClaim := { program := "ythbmnaonnebnhaa", sum := "e7740b65ad913ed618783bdc81fe96140cc1be1422785f461137e5e4617e3b6f", func := "quipu/quipulaw.PointsFixes", spec := "pointsFixes", unfollowed := true, recurses := true, apart := false, narrowed := true }
def PointsFixesUptoSaid : Prop := pointsFixesUptoRow.holds Try.pinned (OpenSpec.upto pointsFixesSpec)

/-- 'quipulaw.DropFills', WHERE WHAT IT READS IS OF BULK AT MOST 1048576: true; the input reads as it did. -/
def dropFillsUptoRow : OpenClaim := { program := "ythbmnaonnebnhaa", sum := "e7740b65ad913ed618783bdc81fe96140cc1be1422785f461137e5e4617e3b6f", func := "quipu/quipulaw.DropFills", spec := "dropFills", inPlace := ["slices.overlaps[bool]"], apart := false, narrowed := true }
def DropFillsUptoSaid : Prop := dropFillsUptoRow.holds Try.pinned (OpenSpec.upto dropFillsSpec)

end Rows
end Go.Proofs.Ythbmnaonnebnhaa

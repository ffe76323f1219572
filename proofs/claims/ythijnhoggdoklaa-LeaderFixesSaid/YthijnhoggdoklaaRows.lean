/-
  No cell of these rows narrows 'for every input' (looked for: loops, veiled, ifaces, maps, wideKeys, modest, calm, conditions, laid).
  DERIVED. THE GIVEN ROWS OF THIS SEAT. 11 by the template 'for every input the law returns true; each argument reads behind the call as it read before'; 0 by the template 'total and deterministic' (their statements: YthijnhoggdoklaaTotals.lean).
  GIVEN WITH THE SEED: the statements are not yours to turn. If you find one false, say at which input.
  Laid BY PROGRAM, IN A SANDBOX (cutbox-rows.mjs): the forced cells as the released guide's own fill.sh prints them over the translation 1259328cd17528e7… (all of the seat's roots in one cut). By AI agents, Wed Nov 11 2026. No macro, syntax, notation, axiom, sorry.
-/
import Derived.Test.YthijnhoggdoklaaChecked
import GoSem.Claim
import GoSem.ClaimJoined
import GoSem.ClaimMapViews
import Derived.JoinedTies
import Derived.KernelRfl
namespace Go.Proofs.Ythijnhoggdoklaa
/- THE CELL 'sum', in the pinned program and in every row, IS THE sha256 OF THE DUMP (.gsa) THAT YthijnhoggdoklaaProg.lean LOADS. Nothing in Lean hashes anything: it is a label: what it is worth is what the hold of that sum in a sandbox is worth. -/
noncomputable def Try.pinned : Pinned := { name := "ythijnhoggdoklaa", sum := "1259328cd17528e7d3191c29220ffaf4e50bf530c0f4a6647fd944e29499800d", checked := Try.checked }
namespace Rows
def none {H : Type} : Left H := { results := [], args := [] }

/-- 'quipulaw.RestTells': WHATEVER THE INPUT: true; the input reads as it did. -/
def restTellsSpec : ChangeSpec := { name := "restTells", fn := fun _ => fun
  | [d1, d2] => { results := [.lit (.bool true)], args := [d1, d2] }
  | _ => none }
def restTellsRow : OpenClaim := { program := "ythijnhoggdoklaa", sum := "1259328cd17528e7d3191c29220ffaf4e50bf530c0f4a6647fd944e29499800d", func := "quipu/quipulaw.RestTells", spec := "restTells", apart := false }
def RestTellsSaid : Prop := restTellsRow.holds Try.pinned (OpenSpec.ofChange restTellsSpec)

/-- ITS FALSE NEIGHBOUR: 'it returns false'. Refute it at one input. -/
def restTellsWrong : ChangeSpec := { name := "restTells", fn := fun _ => fun
  | [d1, d2] => { results := [.lit (.bool false)], args := [d1, d2] }
  | _ => none }
def RestTellsWrongFalsely : Prop := restTellsRow.holds Try.pinned (OpenSpec.ofChange restTellsWrong)

/-- 'quipulaw.LeaderMarks': WHATEVER THE INPUT: true; the input reads as it did. -/
def leaderMarksSpec : ChangeSpec := { name := "leaderMarks", fn := fun _ => fun
  | [d1, d2, d3] => { results := [.lit (.bool true)], args := [d1, d2, d3] }
  | _ => none }
def leaderMarksRow : OpenClaim := { program := "ythijnhoggdoklaa", sum := "1259328cd17528e7d3191c29220ffaf4e50bf530c0f4a6647fd944e29499800d", func := "quipu/quipulaw.LeaderMarks", spec := "leaderMarks", apart := false }
def LeaderMarksSaid : Prop := leaderMarksRow.holds Try.pinned (OpenSpec.ofChange leaderMarksSpec)

/-- ITS FALSE NEIGHBOUR: 'it returns false'. Refute it at one input. -/
def leaderMarksWrong : ChangeSpec := { name := "leaderMarks", fn := fun _ => fun
  | [d1, d2, d3] => { results := [.lit (.bool false)], args := [d1, d2, d3] }
  | _ => none }
def LeaderMarksWrongFalsely : Prop := leaderMarksRow.holds Try.pinned (OpenSpec.ofChange leaderMarksWrong)

/-- 'quipulaw.SpanDuals': WHATEVER THE INPUT: true; the input reads as it did. -/
def spanDualsSpec : ChangeSpec := { name := "spanDuals", fn := fun _ => fun
  | [d1, d2] => { results := [.lit (.bool true)], args := [d1, d2] }
  | _ => none }
def spanDualsRow : OpenClaim := { program := "ythijnhoggdoklaa", sum := "1259328cd17528e7d3191c29220ffaf4e50bf530c0f4a6647fd944e29499800d", func := "quipu/quipulaw.SpanDuals", spec := "spanDuals", unfollowed := true, recurses := true, apart := false }
def SpanDualsSaid : Prop := spanDualsRow.holds Try.pinned (OpenSpec.ofChange spanDualsSpec)

/-- ITS FALSE NEIGHBOUR: 'it returns false'. Refute it at one input. -/
def spanDualsWrong : ChangeSpec := { name := "spanDuals", fn := fun _ => fun
  | [d1, d2] => { results := [.lit (.bool false)], args := [d1, d2] }
  | _ => none }
def SpanDualsWrongFalsely : Prop := spanDualsRow.holds Try.pinned (OpenSpec.ofChange spanDualsWrong)

/-- 'quipulaw.LeaderFixes': WHATEVER THE INPUT: true; the input reads as it did. -/
def leaderFixesSpec : ChangeSpec := { name := "leaderFixes", fn := fun _ => fun
  | [d1, d2, d3] => { results := [.lit (.bool true)], args := [d1, d2, d3] }
  | _ => none }
def leaderFixesRow : OpenClaim := { program := "ythijnhoggdoklaa", sum := "1259328cd17528e7d3191c29220ffaf4e50bf530c0f4a6647fd944e29499800d", func := "quipu/quipulaw.LeaderFixes", spec := "leaderFixes", apart := false }
def LeaderFixesSaid : Prop := leaderFixesRow.holds Try.pinned (OpenSpec.ofChange leaderFixesSpec)

/-- ITS FALSE NEIGHBOUR: 'it returns false'. Refute it at one input. -/
def leaderFixesWrong : ChangeSpec := { name := "leaderFixes", fn := fun _ => fun
  | [d1, d2, d3] => { results := [.lit (.bool false)], args := [d1, d2, d3] }
  | _ => none }
def LeaderFixesWrongFalsely : Prop := leaderFixesRow.holds Try.pinned (OpenSpec.ofChange leaderFixesWrong)

/-- 'quipulaw.FlipBads': WHATEVER THE INPUT: true; the input reads as it did. -/
def flipBadsSpec : ChangeSpec := { name := "flipBads", fn := fun _ => fun
  | [d1, d2, d3] => { results := [.lit (.bool true)], args := [d1, d2, d3] }
  | _ => none }
def flipBadsRow : OpenClaim := { program := "ythijnhoggdoklaa", sum := "1259328cd17528e7d3191c29220ffaf4e50bf530c0f4a6647fd944e29499800d", func := "quipu/quipulaw.FlipBads", spec := "flipBads", apart := false }
def FlipBadsSaid : Prop := flipBadsRow.holds Try.pinned (OpenSpec.ofChange flipBadsSpec)

/-- ITS FALSE NEIGHBOUR: 'it returns false'. Refute it at one input. -/
def flipBadsWrong : ChangeSpec := { name := "flipBads", fn := fun _ => fun
  | [d1, d2, d3] => { results := [.lit (.bool false)], args := [d1, d2, d3] }
  | _ => none }
def FlipBadsWrongFalsely : Prop := flipBadsRow.holds Try.pinned (OpenSpec.ofChange flipBadsWrong)

/-- 'quipulaw.LeaderTells': WHATEVER THE INPUT: true; the input reads as it did. -/
def leaderTellsSpec : ChangeSpec := { name := "leaderTells", fn := fun _ => fun
  | [d1, d2, d3] => { results := [.lit (.bool true)], args := [d1, d2, d3] }
  | _ => none }
def leaderTellsRow : OpenClaim := { program := "ythijnhoggdoklaa", sum := "1259328cd17528e7d3191c29220ffaf4e50bf530c0f4a6647fd944e29499800d", func := "quipu/quipulaw.LeaderTells", spec := "leaderTells", apart := false }
def LeaderTellsSaid : Prop := leaderTellsRow.holds Try.pinned (OpenSpec.ofChange leaderTellsSpec)

/-- ITS FALSE NEIGHBOUR: 'it returns false'. Refute it at one input. -/
def leaderTellsWrong : ChangeSpec := { name := "leaderTells", fn := fun _ => fun
  | [d1, d2, d3] => { results := [.lit (.bool false)], args := [d1, d2, d3] }
  | _ => none }
def LeaderTellsWrongFalsely : Prop := leaderTellsRow.holds Try.pinned (OpenSpec.ofChange leaderTellsWrong)

/-- 'quipulaw.RestGets': WHATEVER THE INPUT: true; the input reads as it did. -/
def restGetsSpec : ChangeSpec := { name := "restGets", fn := fun _ => fun
  | [d1, d2] => { results := [.lit (.bool true)], args := [d1, d2] }
  | _ => none }
def restGetsRow : OpenClaim := { program := "ythijnhoggdoklaa", sum := "1259328cd17528e7d3191c29220ffaf4e50bf530c0f4a6647fd944e29499800d", func := "quipu/quipulaw.RestGets", spec := "restGets", apart := false }
def RestGetsSaid : Prop := restGetsRow.holds Try.pinned (OpenSpec.ofChange restGetsSpec)

/-- ITS FALSE NEIGHBOUR: 'it returns false'. Refute it at one input. -/
def restGetsWrong : ChangeSpec := { name := "restGets", fn := fun _ => fun
  | [d1, d2] => { results := [.lit (.bool false)], args := [d1, d2] }
  | _ => none }
def RestGetsWrongFalsely : Prop := restGetsRow.holds Try.pinned (OpenSpec.ofChange restGetsWrong)

/-- 'quipulaw.FlipSteps': WHATEVER THE INPUT: true; the input reads as it did. -/
def flipStepsSpec : ChangeSpec := { name := "flipSteps", fn := fun _ => fun
  | [d1, d2, d3] => { results := [.lit (.bool true)], args := [d1, d2, d3] }
  | _ => none }
def flipStepsRow : OpenClaim := { program := "ythijnhoggdoklaa", sum := "1259328cd17528e7d3191c29220ffaf4e50bf530c0f4a6647fd944e29499800d", func := "quipu/quipulaw.FlipSteps", spec := "flipSteps", apart := false }
def FlipStepsSaid : Prop := flipStepsRow.holds Try.pinned (OpenSpec.ofChange flipStepsSpec)

/-- ITS FALSE NEIGHBOUR: 'it returns false'. Refute it at one input. -/
def flipStepsWrong : ChangeSpec := { name := "flipSteps", fn := fun _ => fun
  | [d1, d2, d3] => { results := [.lit (.bool false)], args := [d1, d2, d3] }
  | _ => none }
def FlipStepsWrongFalsely : Prop := flipStepsRow.holds Try.pinned (OpenSpec.ofChange flipStepsWrong)

/-- 'quipulaw.FlipRuns': WHATEVER THE INPUT: true; the input reads as it did. -/
def flipRunsSpec : ChangeSpec := { name := "flipRuns", fn := fun _ => fun
  | [d1, d2, d3] => { results := [.lit (.bool true)], args := [d1, d2, d3] }
  | _ => none }
def flipRunsRow : OpenClaim := { program := "ythijnhoggdoklaa", sum := "1259328cd17528e7d3191c29220ffaf4e50bf530c0f4a6647fd944e29499800d", func := "quipu/quipulaw.FlipRuns", spec := "flipRuns", apart := false }
def FlipRunsSaid : Prop := flipRunsRow.holds Try.pinned (OpenSpec.ofChange flipRunsSpec)

/-- ITS FALSE NEIGHBOUR: 'it returns false'. Refute it at one input. -/
def flipRunsWrong : ChangeSpec := { name := "flipRuns", fn := fun _ => fun
  | [d1, d2, d3] => { results := [.lit (.bool false)], args := [d1, d2, d3] }
  | _ => none }
def FlipRunsWrongFalsely : Prop := flipRunsRow.holds Try.pinned (OpenSpec.ofChange flipRunsWrong)

/-- 'quipulaw.RestPuts': WHATEVER THE INPUT: true; the input reads as it did. -/
def restPutsSpec : ChangeSpec := { name := "restPuts", fn := fun _ => fun
  | [d1, d2] => { results := [.lit (.bool true)], args := [d1, d2] }
  | _ => none }
def restPutsRow : OpenClaim := { program := "ythijnhoggdoklaa", sum := "1259328cd17528e7d3191c29220ffaf4e50bf530c0f4a6647fd944e29499800d", func := "quipu/quipulaw.RestPuts", spec := "restPuts", apart := false }
def RestPutsSaid : Prop := restPutsRow.holds Try.pinned (OpenSpec.ofChange restPutsSpec)

/-- ITS FALSE NEIGHBOUR: 'it returns false'. Refute it at one input. -/
def restPutsWrong : ChangeSpec := { name := "restPuts", fn := fun _ => fun
  | [d1, d2] => { results := [.lit (.bool false)], args := [d1, d2] }
  | _ => none }
def RestPutsWrongFalsely : Prop := restPutsRow.holds Try.pinned (OpenSpec.ofChange restPutsWrong)

/-- 'quipulaw.BosePuts': WHATEVER THE INPUT: true; the input reads as it did. -/
def bosePutsSpec : ChangeSpec := { name := "bosePuts", fn := fun _ => fun
  | [d] => { results := [.lit (.bool true)], args := [d] }
  | _ => none }
def bosePutsRow : OpenClaim := { program := "ythijnhoggdoklaa", sum := "1259328cd17528e7d3191c29220ffaf4e50bf530c0f4a6647fd944e29499800d", func := "quipu/quipulaw.BosePuts", spec := "bosePuts", apart := false }
def BosePutsSaid : Prop := bosePutsRow.holds Try.pinned (OpenSpec.ofChange bosePutsSpec)

/-- ITS FALSE NEIGHBOUR: 'it returns false'. Refute it at one input. -/
def bosePutsWrong : ChangeSpec := { name := "bosePuts", fn := fun _ => fun
  | [d] => { results := [.lit (.bool false)], args := [d] }
  | _ => none }
def BosePutsWrongFalsely : Prop := bosePutsRow.holds Try.pinned (OpenSpec.ofChange bosePutsWrong)

/- THE SECOND FORM. 'bulk': how many values and letters a reading holds, each counted each time it is reached (what is shared counts as often as it is met; a slice's spare places count too). A statement '..UptoSaid' is the law's where the arguments, and the package variables that the reading takes, are together of bulk at most 1048576: NARROWER than '..Said'. Prove '..Said' where nothing that the law and all that it calls make is longer than what came in: it says more and counts as full. Else prove '..UptoSaid'. A law counts once. -/
mutual
def uptoBulk {H : Type} : DataW H → Nat
  | .lit (.string bytes) => bytes.length + 1
  | .lit _ => 1
  | .nil => 1
  | .ptr d => uptoBulk d + 1
  | .slice elems spare => uptoBulkAll elems + uptoBulkAll spare + 1
  | .agg parts => uptoBulkAll parts + 1
  | .iface _ d => uptoBulk d + 1
  | .map entries => uptoBulkEntries entries + 1
  | .held _ => 1
def uptoBulkAll {H : Type} : List (DataW H) → Nat
  | [] => 0
  | d :: r => uptoBulk d + uptoBulkAll r
def uptoBulkEntries {H : Type} : List (Lit × DataW H) → Nat
  | [] => 0
  | x :: r => uptoBulkEntry x + uptoBulkEntries r
def uptoBulkEntry {H : Type} : Lit × DataW H → Nat
  | (.string bytes, d) => bytes.length + uptoBulk d + 1
  | (_, d) => uptoBulk d + 1
 end
def uptoSmall : (H : Type) → List (DataW H) → Bool := fun _ ds => decide (uptoBulkAll ds ≤ 1048576)
def OpenSpec.upto (s : _root_.Go.ChangeSpec) : _root_.Go.OpenSpec := { _root_.Go.OpenSpec.ofChange s with cond := some uptoSmall }

/-- 'quipulaw.RestTells', WHERE WHAT IT READS IS OF BULK AT MOST 1048576: true; the input reads as it did. -/
def restTellsUptoRow : OpenClaim := { program := "ythijnhoggdoklaa", sum := "1259328cd17528e7d3191c29220ffaf4e50bf530c0f4a6647fd944e29499800d", func := "quipu/quipulaw.RestTells", spec := "restTells", apart := false, narrowed := true }
def RestTellsUptoSaid : Prop := restTellsUptoRow.holds Try.pinned (OpenSpec.upto restTellsSpec)

/-- 'quipulaw.LeaderMarks', WHERE WHAT IT READS IS OF BULK AT MOST 1048576: true; the input reads as it did. -/
def leaderMarksUptoRow : OpenClaim := { program := "ythijnhoggdoklaa", sum := "1259328cd17528e7d3191c29220ffaf4e50bf530c0f4a6647fd944e29499800d", func := "quipu/quipulaw.LeaderMarks", spec := "leaderMarks", apart := false, narrowed := true }
def LeaderMarksUptoSaid : Prop := leaderMarksUptoRow.holds Try.pinned (OpenSpec.upto leaderMarksSpec)

/-- 'quipulaw.SpanDuals', WHERE WHAT IT READS IS OF BULK AT MOST 1048576: true; the input reads as it did. -/
def spanDualsUptoRow : OpenClaim := { program := "ythijnhoggdoklaa", sum := "1259328cd17528e7d3191c29220ffaf4e50bf530c0f4a6647fd944e29499800d", func := "quipu/quipulaw.SpanDuals", spec := "spanDuals", unfollowed := true, recurses := true, apart := false, narrowed := true }
def SpanDualsUptoSaid : Prop := spanDualsUptoRow.holds Try.pinned (OpenSpec.upto spanDualsSpec)

/-- 'quipulaw.LeaderFixes', WHERE WHAT IT READS IS OF BULK AT MOST 1048576: true; the input reads as it did. -/
def leaderFixesUptoRow : OpenClaim := { program := "ythijnhoggdoklaa", sum := "1259328cd17528e7d3191c29220ffaf4e50bf530c0f4a6647fd944e29499800d", func := "quipu/quipulaw.LeaderFixes", spec := "leaderFixes", apart := false, narrowed := true }
def LeaderFixesUptoSaid : Prop := leaderFixesUptoRow.holds Try.pinned (OpenSpec.upto leaderFixesSpec)

/-- 'quipulaw.FlipBads', WHERE WHAT IT READS IS OF BULK AT MOST 1048576: true; the input reads as it did. -/
def flipBadsUptoRow : OpenClaim := { program := "ythijnhoggdoklaa", sum := "1259328cd17528e7d3191c29220ffaf4e50bf530c0f4a6647fd944e29499800d", func := "quipu/quipulaw.FlipBads", spec := "flipBads", apart := false, narrowed := true }
def FlipBadsUptoSaid : Prop := flipBadsUptoRow.holds Try.pinned (OpenSpec.upto flipBadsSpec)

/-- 'quipulaw.LeaderTells', WHERE WHAT IT READS IS OF BULK AT MOST 1048576: true; the input reads as it did. -/
def leaderTellsUptoRow : OpenClaim := { program := "ythijnhoggdoklaa", sum := "1259328cd17528e7d3191c29220ffaf4e50bf530c0f4a6647fd944e29499800d", func := "quipu/quipulaw.LeaderTells", spec := "leaderTells", apart := false, narrowed := true }
def LeaderTellsUptoSaid : Prop := leaderTellsUptoRow.holds Try.pinned (OpenSpec.upto leaderTellsSpec)

/-- 'quipulaw.RestGets', WHERE WHAT IT READS IS OF BULK AT MOST 1048576: true; the input reads as it did. -/
def restGetsUptoRow : OpenClaim := { program := "ythijnhoggdoklaa", sum := "1259328cd17528e7d3191c29220ffaf4e50bf530c0f4a6647fd944e29499800d", func := "quipu/quipulaw.RestGets", spec := "restGets", apart := false, narrowed := true }
def RestGetsUptoSaid : Prop := restGetsUptoRow.holds Try.pinned (OpenSpec.upto restGetsSpec)

/-- 'quipulaw.FlipSteps', WHERE WHAT IT READS IS OF BULK AT MOST 1048576: true; the input reads as it did. -/
def flipStepsUptoRow : OpenClaim := { program := "ythijnhoggdoklaa", sum := "1259328cd17528e7d3191c29220ffaf4e50bf530c0f4a6647fd944e29499800d", func := "quipu/quipulaw.FlipSteps", spec := "flipSteps", apart := false, narrowed := true }
def FlipStepsUptoSaid : Prop := flipStepsUptoRow.holds Try.pinned (OpenSpec.upto flipStepsSpec)

/-- 'quipulaw.FlipRuns', WHERE WHAT IT READS IS OF BULK AT MOST 1048576: true; the input reads as it did. -/
def flipRunsUptoRow : OpenClaim := { program := "ythijnhoggdoklaa", sum := "1259328cd17528e7d3191c29220ffaf4e50bf530c0f4a6647fd944e29499800d", func := "quipu/quipulaw.FlipRuns", spec := "flipRuns", apart := false, narrowed := true }
def FlipRunsUptoSaid : Prop := flipRunsUptoRow.holds Try.pinned (OpenSpec.upto flipRunsSpec)

/-- 'quipulaw.RestPuts', WHERE WHAT IT READS IS OF BULK AT MOST 1048576: true; the input reads as it did. -/
def restPutsUptoRow : OpenClaim := { program := "ythijnhoggdoklaa", sum := "1259328cd17528e7d3191c29220ffaf4e50bf530c0f4a6647fd944e29499800d", func := "quipu/quipulaw.RestPuts", spec := "restPuts", apart := false, narrowed := true }
def RestPutsUptoSaid : Prop := restPutsUptoRow.holds Try.pinned (OpenSpec.upto restPutsSpec)

/-- 'quipulaw.BosePuts', WHERE WHAT IT READS IS OF BULK AT MOST 1048576: true; the input reads as it did. -/
def bosePutsUptoRow : OpenClaim := { program := "ythijnhoggdoklaa", sum := "1259328cd17528e7d3191c29220ffaf4e50bf530c0f4a6647fd944e29499800d", func := "quipu/quipulaw.BosePuts", spec := "bosePuts", apart := false, narrowed := true }
def BosePutsUptoSaid : Prop := bosePutsUptoRow.holds Try.pinned (OpenSpec.upto bosePutsSpec)

end Rows
end Go.Proofs.Ythijnhoggdoklaa

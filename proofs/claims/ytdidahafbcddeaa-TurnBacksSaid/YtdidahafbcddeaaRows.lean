/-
  No cell of these rows narrows 'for every input' (looked for: loops, veiled, ifaces, maps, wideKeys, modest, calm, conditions, laid).
  DERIVED. THE GIVEN ROWS OF THIS SEAT. 5 by the template 'for every input the law returns true; each argument reads behind the call as it read before'; 0 by the template 'total and deterministic' (their statements: YtdidahafbcddeaaTotals.lean).
  GIVEN WITH THE SEED: the statements are not yours to turn. If you find one false, say at which input.
  Laid BY PROGRAM, IN A SANDBOX (cutbox-rows.mjs): the forced cells as the released guide's own fill.sh prints them over the translation 060de1ada677dc0d… (all of the seat's roots in one cut). By AI agents, Wed Nov 11 2026. No macro, syntax, notation, axiom, sorry.
-/
import Derived.Test.YtdidahafbcddeaaChecked
import GoSem.Claim
import GoSem.ClaimJoined
import GoSem.ClaimMapViews
import Derived.JoinedTies
import Derived.KernelRfl
namespace Go.Proofs.Ytdidahafbcddeaa
/- THE CELL 'sum', in the pinned program and in every row, IS THE sha256 OF THE DUMP (.gsa) THAT YtdidahafbcddeaaProg.lean LOADS. Nothing in Lean hashes anything: it is a label: what it is worth is what the hold of that sum in a sandbox is worth. -/
noncomputable def Try.pinned : Pinned := { name := "ytdidahafbcddeaa", sum := "060de1ada677dc0dbe7e6ed9d6fb9b5e8189181f0b67c4c324604170faef37fd", checked := Try.checked }
namespace Rows
def none {H : Type} : Left H := { results := [], args := [] }

/-- 'quipulaw.MullerGets': WHATEVER THE INPUT: true; the input reads as it did. -/
def mullerGetsSpec : ChangeSpec := { name := "mullerGets", fn := fun _ => fun
  | [d1, d2, d3] => { results := [.lit (.bool true)], args := [d1, d2, d3] }
  | _ => none }
def mullerGetsRow : OpenClaim := { program := "ytdidahafbcddeaa", sum := "060de1ada677dc0dbe7e6ed9d6fb9b5e8189181f0b67c4c324604170faef37fd", func := "quipu/quipulaw.MullerGets", spec := "mullerGets", unfollowed := true, recurses := true, apart := false }
def MullerGetsSaid : Prop := mullerGetsRow.holds Try.pinned (OpenSpec.ofChange mullerGetsSpec)

/-- ITS FALSE NEIGHBOUR: 'it returns false'. Refute it at one input. -/
def mullerGetsWrong : ChangeSpec := { name := "mullerGets", fn := fun _ => fun
  | [d1, d2, d3] => { results := [.lit (.bool false)], args := [d1, d2, d3] }
  | _ => none }
def MullerGetsWrongFalsely : Prop := mullerGetsRow.holds Try.pinned (OpenSpec.ofChange mullerGetsWrong)

/-- 'quipulaw.HuffLens': WHATEVER THE INPUT: true; the input reads as it did. -/
def huffLensSpec : ChangeSpec := { name := "huffLens", fn := fun _ => fun
  | [d] => { results := [.lit (.bool true)], args := [d] }
  | _ => none }
def huffLensRow : OpenClaim := { program := "ytdidahafbcddeaa", sum := "060de1ada677dc0dbe7e6ed9d6fb9b5e8189181f0b67c4c324604170faef37fd", func := "quipu/quipulaw.HuffLens", spec := "huffLens", unfollowed := true, recurses := true, apart := false }
def HuffLensSaid : Prop := huffLensRow.holds Try.pinned (OpenSpec.ofChange huffLensSpec)

/-- ITS FALSE NEIGHBOUR: 'it returns false'. Refute it at one input. -/
def huffLensWrong : ChangeSpec := { name := "huffLens", fn := fun _ => fun
  | [d] => { results := [.lit (.bool false)], args := [d] }
  | _ => none }
def HuffLensWrongFalsely : Prop := huffLensRow.holds Try.pinned (OpenSpec.ofChange huffLensWrong)

/-- 'quipulaw.HuffCosts': WHATEVER THE INPUT: true; the input reads as it did. -/
def huffCostsSpec : ChangeSpec := { name := "huffCosts", fn := fun _ => fun
  | [d] => { results := [.lit (.bool true)], args := [d] }
  | _ => none }
def huffCostsRow : OpenClaim := { program := "ytdidahafbcddeaa", sum := "060de1ada677dc0dbe7e6ed9d6fb9b5e8189181f0b67c4c324604170faef37fd", func := "quipu/quipulaw.HuffCosts", spec := "huffCosts", unfollowed := true, recurses := true, apart := false }
def HuffCostsSaid : Prop := huffCostsRow.holds Try.pinned (OpenSpec.ofChange huffCostsSpec)

/-- ITS FALSE NEIGHBOUR: 'it returns false'. Refute it at one input. -/
def huffCostsWrong : ChangeSpec := { name := "huffCosts", fn := fun _ => fun
  | [d] => { results := [.lit (.bool false)], args := [d] }
  | _ => none }
def HuffCostsWrongFalsely : Prop := huffCostsRow.holds Try.pinned (OpenSpec.ofChange huffCostsWrong)

/-- 'quipulaw.TurnTells': WHATEVER THE INPUT: true; the input reads as it did. -/
def turnTellsSpec : ChangeSpec := { name := "turnTells", fn := fun _ => fun
  | [d] => { results := [.lit (.bool true)], args := [d] }
  | _ => none }
def turnTellsRow : OpenClaim := { program := "ytdidahafbcddeaa", sum := "060de1ada677dc0dbe7e6ed9d6fb9b5e8189181f0b67c4c324604170faef37fd", func := "quipu/quipulaw.TurnTells", spec := "turnTells", inPlace := ["internal/bytealg.Compare"], unfollowed := true, recurses := true, apart := false }
def TurnTellsSaid : Prop := turnTellsRow.holds Try.pinned (OpenSpec.ofChange turnTellsSpec)

/-- ITS FALSE NEIGHBOUR: 'it returns false'. Refute it at one input. -/
def turnTellsWrong : ChangeSpec := { name := "turnTells", fn := fun _ => fun
  | [d] => { results := [.lit (.bool false)], args := [d] }
  | _ => none }
def TurnTellsWrongFalsely : Prop := turnTellsRow.holds Try.pinned (OpenSpec.ofChange turnTellsWrong)

/-- 'quipulaw.TurnBacks': WHATEVER THE INPUT: true; the input reads as it did. -/
def turnBacksSpec : ChangeSpec := { name := "turnBacks", fn := fun _ => fun
  | [d1, d2] => { results := [.lit (.bool true)], args := [d1, d2] }
  | _ => none }
def turnBacksRow : OpenClaim := { program := "ytdidahafbcddeaa", sum := "060de1ada677dc0dbe7e6ed9d6fb9b5e8189181f0b67c4c324604170faef37fd", func := "quipu/quipulaw.TurnBacks", spec := "turnBacks", inPlace := ["internal/bytealg.Compare"], unfollowed := true, recurses := true, apart := false }
def TurnBacksSaid : Prop := turnBacksRow.holds Try.pinned (OpenSpec.ofChange turnBacksSpec)

/-- ITS FALSE NEIGHBOUR: 'it returns false'. Refute it at one input. -/
def turnBacksWrong : ChangeSpec := { name := "turnBacks", fn := fun _ => fun
  | [d1, d2] => { results := [.lit (.bool false)], args := [d1, d2] }
  | _ => none }
def TurnBacksWrongFalsely : Prop := turnBacksRow.holds Try.pinned (OpenSpec.ofChange turnBacksWrong)

/- THE SECOND FORM. 'bulk': how many values and letters a reading holds, each counted each time it is reached (what is shared counts as often as it is met; a slice's spare places count too). A statement '..UptoSaid' is the law's where the arguments, and the package variables that the reading takes, are together of bulk at most 1048576: NARROWER than '..Said'. Prove '..Said' where nothing that the law and all that it calls make is longer than what came in: it says more and counts as full. Else prove '..UptoSaid'. A law counts once. -/
mutual
def uptoBulk {H : Type} : DataW H → Nat
  | .lit (.string bytes) => bytes.length + 1
  | .lit _ => 1
  | .nil => 1
  | .ptr d => uptoBulk d + 1
  | .slice elems spare => uptoBulkAll elems + uptoBulkAll spare + 1
  | .agg parts => uptoBulkAll parts + 1
  | .iface _ d => uptoBulk d + 1
  | .map entries => uptoBulkEntries entries + 1
  | .held _ => 1
def uptoBulkAll {H : Type} : List (DataW H) → Nat
  | [] => 0
  | d :: r => uptoBulk d + uptoBulkAll r
def uptoBulkEntries {H : Type} : List (Lit × DataW H) → Nat
  | [] => 0
  | x :: r => uptoBulkEntry x + uptoBulkEntries r
def uptoBulkEntry {H : Type} : Lit × DataW H → Nat
  | (.string bytes, d) => bytes.length + uptoBulk d + 1
  | (_, d) => uptoBulk d + 1
 end
def uptoSmall : (H : Type) → List (DataW H) → Bool := fun _ ds => decide (uptoBulkAll ds ≤ 1048576)
def OpenSpec.upto (s : _root_.Go.ChangeSpec) : _root_.Go.OpenSpec := { _root_.Go.OpenSpec.ofChange s with cond := some uptoSmall }

/-- 'quipulaw.MullerGets', WHERE WHAT IT READS IS OF BULK AT MOST 1048576: true; the input reads as it did. -/
def mullerGetsUptoRow : OpenClaim := { program := "ytdidahafbcddeaa", sum := "060de1ada677dc0dbe7e6ed9d6fb9b5e8189181f0b67c4c324604170faef37fd", func := "quipu/quipulaw.MullerGets", spec := "mullerGets", unfollowed := true, recurses := true, apart := false, narrowed := true }
def MullerGetsUptoSaid : Prop := mullerGetsUptoRow.holds Try.pinned (OpenSpec.upto mullerGetsSpec)

/-- 'quipulaw.HuffLens', WHERE WHAT IT READS IS OF BULK AT MOST 1048576: true; the input reads as it did. -/
def huffLensUptoRow : OpenClaim := { program := "ytdidahafbcddeaa", sum := "060de1ada677dc0dbe7e6ed9d6fb9b5e8189181f0b67c4c324604170faef37fd", func := "quipu/quipulaw.HuffLens", spec := "huffLens", unfollowed := true, recurses := true, apart := false, narrowed := true }
def HuffLensUptoSaid : Prop := huffLensUptoRow.holds Try.pinned (OpenSpec.upto huffLensSpec)

/-- 'quipulaw.HuffCosts', WHERE WHAT IT READS IS OF BULK AT MOST 1048576: true; the input reads as it did. -/
def huffCostsUptoRow : OpenClaim := { program := "ytdidahafbcddeaa", sum := "060de1ada677dc0dbe7e6ed9d6fb9b5e8189181f0b67c4c324604170faef37fd", func := "quipu/quipulaw.HuffCosts", spec := "huffCosts", unfollowed := true, recurses := true, apart := false, narrowed := true }
def HuffCostsUptoSaid : Prop := huffCostsUptoRow.holds Try.pinned (OpenSpec.upto huffCostsSpec)

/-- 'quipulaw.TurnTells', WHERE WHAT IT READS IS OF BULK AT MOST 1048576: true; the input reads as it did. -/
def turnTellsUptoRow : OpenClaim := { program := "ytdidahafbcddeaa", sum := "060de1ada677dc0dbe7e6ed9d6fb9b5e8189181f0b67c4c324604170faef37fd", func := "quipu/quipulaw.TurnTells", spec := "turnTells", inPlace := ["internal/bytealg.Compare"], unfollowed := true, recurses := true, apart := false, narrowed := true }
def TurnTellsUptoSaid : Prop := turnTellsUptoRow.holds Try.pinned (OpenSpec.upto turnTellsSpec)

/-- 'quipulaw.TurnBacks', WHERE WHAT IT READS IS OF BULK AT MOST 1048576: true; the input reads as it did. -/
def turnBacksUptoRow : OpenClaim := { program := "ytdidahafbcddeaa", sum := "060de1ada677dc0dbe7e6ed9d6fb9b5e8189181f0b67c4c324604170faef37fd", func := "quipu/quipulaw.TurnBacks", spec := "turnBacks", inPlace := ["internal/bytealg.Compare"], unfollowed := true, recurses := true, apart := false, narrowed := true }
def TurnBacksUptoSaid : Prop := turnBacksUptoRow.holds Try.pinned (OpenSpec.upto turnBacksSpec)

end Rows
end Go.Proofs.Ytdidahafbcddeaa

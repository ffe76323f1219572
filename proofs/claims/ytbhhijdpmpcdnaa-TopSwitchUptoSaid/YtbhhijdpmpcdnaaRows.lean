/-
  No cell of these rows narrows 'for every input' (looked for: loops, veiled, ifaces, maps, wideKeys, modest, calm, conditions, laid).
  DERIVED. THE GIVEN ROWS OF THIS SEAT. 4 by the template 'for every input the law returns true; each argument reads behind the call as it read before'; 0 by the template 'total and deterministic' (their statements: YtbhhijdpmpcdnaaTotals.lean).
  GIVEN WITH THE SEED: the statements are not yours to turn. If you find one false, say at which input.
  Laid BY PROGRAM, IN A SANDBOX (cutbox-rows.mjs): the forced cells as the released guide's own fill.sh prints them over the translation 6a04966e1dfa0da0… (all of the seat's roots in one cut). By AI agents, Wed Nov 11 2026. No macro, syntax, notation, axiom, sorry.
-/
import Derived.Test.YtbhhijdpmpcdnaaChecked
import GoSem.Claim
import GoSem.ClaimJoined
import GoSem.ClaimMapViews
import Derived.JoinedTies
import Derived.KernelRfl
namespace Go.Proofs.Ytbhhijdpmpcdnaa
/- THE CELL 'sum', in the pinned program and in every row, IS THE sha256 OF THE DUMP (.gsa) THAT YtbhhijdpmpcdnaaProg.lean LOADS. Nothing in Lean hashes anything: it is a label: what it is worth is what the hold of that sum in a sandbox is worth. -/
noncomputable def Try.pinned : Pinned := { name := "ytbhhijdpmpcdnaa", sum := "6a04966e1dfa0da02f65e9992cfa4132ab7b36ab450fa1488b0508b8c5cb030a", checked := Try.checked }
namespace Rows
def none {H : Type} : Left H := { results := [], args := [] }

/-- 'quipulaw.PairPlays': WHATEVER THE INPUT: true; the input reads as it did. -/
def pairPlaysSpec : ChangeSpec := { name := "pairPlays", fn := fun _ => fun
  | [d1, d2, d3] => { results := [.lit (.bool true)], args := [d1, d2, d3] }
  | _ => none }
def pairPlaysRow : OpenClaim := { program := "ytbhhijdpmpcdnaa", sum := "6a04966e1dfa0da02f65e9992cfa4132ab7b36ab450fa1488b0508b8c5cb030a", func := "quipu/quipulaw.PairPlays", spec := "pairPlays", apart := false }
def PairPlaysSaid : Prop := pairPlaysRow.holds Try.pinned (OpenSpec.ofChange pairPlaysSpec)

/-- ITS FALSE NEIGHBOUR: 'it returns false'. Refute it at one input. -/
def pairPlaysWrong : ChangeSpec := { name := "pairPlays", fn := fun _ => fun
  | [d1, d2, d3] => { results := [.lit (.bool false)], args := [d1, d2, d3] }
  | _ => none }
def PairPlaysWrongFalsely : Prop := pairPlaysRow.holds Try.pinned (OpenSpec.ofChange pairPlaysWrong)

/-- 'quiputop.TopReads': WHATEVER THE INPUT: true; the input reads as it did. -/
def topReadsSpec : ChangeSpec := { name := "topReads", fn := fun _ => fun
  | [d1, d2, d3] => { results := [.lit (.bool true)], args := [d1, d2, d3] }
  | _ => none }
def topReadsRow : OpenClaim := { program := "ytbhhijdpmpcdnaa", sum := "6a04966e1dfa0da02f65e9992cfa4132ab7b36ab450fa1488b0508b8c5cb030a", func := "quipu/quiputop.TopReads", spec := "topReads", apart := false }
def TopReadsSaid : Prop := topReadsRow.holds Try.pinned (OpenSpec.ofChange topReadsSpec)

/-- ITS FALSE NEIGHBOUR: 'it returns false'. Refute it at one input. -/
def topReadsWrong : ChangeSpec := { name := "topReads", fn := fun _ => fun
  | [d1, d2, d3] => { results := [.lit (.bool false)], args := [d1, d2, d3] }
  | _ => none }
def TopReadsWrongFalsely : Prop := topReadsRow.holds Try.pinned (OpenSpec.ofChange topReadsWrong)

/-- 'quiputop.TopSwitch': WHATEVER THE INPUT: true; the input reads as it did. -/
def topSwitchSpec : ChangeSpec := { name := "topSwitch", fn := fun _ => fun
  | [d1, d2, d3, d4, d5] => { results := [.lit (.bool true)], args := [d1, d2, d3, d4, d5] }
  | _ => none }
def topSwitchRow : OpenClaim := { program := "ytbhhijdpmpcdnaa", sum := "6a04966e1dfa0da02f65e9992cfa4132ab7b36ab450fa1488b0508b8c5cb030a", func := "quipu/quiputop.TopSwitch", spec := "topSwitch", apart := false }
def TopSwitchSaid : Prop := topSwitchRow.holds Try.pinned (OpenSpec.ofChange topSwitchSpec)

/-- ITS FALSE NEIGHBOUR: 'it returns false'. Refute it at one input. -/
def topSwitchWrong : ChangeSpec := { name := "topSwitch", fn := fun _ => fun
  | [d1, d2, d3, d4, d5] => { results := [.lit (.bool false)], args := [d1, d2, d3, d4, d5] }
  | _ => none }
def TopSwitchWrongFalsely : Prop := topSwitchRow.holds Try.pinned (OpenSpec.ofChange topSwitchWrong)

/-- 'quiputop.TopDiscs': WHATEVER THE INPUT: true; the input reads as it did. -/
def topDiscsSpec : ChangeSpec := { name := "topDiscs", fn := fun _ => fun
  | [d1, d2, d3] => { results := [.lit (.bool true)], args := [d1, d2, d3] }
  | _ => none }
def topDiscsRow : OpenClaim := { program := "ytbhhijdpmpcdnaa", sum := "6a04966e1dfa0da02f65e9992cfa4132ab7b36ab450fa1488b0508b8c5cb030a", func := "quipu/quiputop.TopDiscs", spec := "topDiscs", apart := false }
def TopDiscsSaid : Prop := topDiscsRow.holds Try.pinned (OpenSpec.ofChange topDiscsSpec)

/-- ITS FALSE NEIGHBOUR: 'it returns false'. Refute it at one input. -/
def topDiscsWrong : ChangeSpec := { name := "topDiscs", fn := fun _ => fun
  | [d1, d2, d3] => { results := [.lit (.bool false)], args := [d1, d2, d3] }
  | _ => none }
def TopDiscsWrongFalsely : Prop := topDiscsRow.holds Try.pinned (OpenSpec.ofChange topDiscsWrong)

/- THE SECOND FORM. 'bulk': how many values and letters a reading holds, each counted each time it is reached (what is shared counts as often as it is met; a slice's spare places count too). A statement '..UptoSaid' is the law's where the arguments, and the package variables that the reading takes, are together of bulk at most 1048576: NARROWER than '..Said'. Prove '..Said' where nothing that the law and all that it calls make is longer than what came in: it says more and counts as full. Else prove '..UptoSaid'. A law counts once. -/
mutual
def uptoBulk {H : Type} : DataW H → Nat
  | .lit (.string bytes) => bytes.length + 1
  | .lit _ => 1
  | .nil => 1
  | .ptr d => uptoBulk d + 1
  | .slice elems spare => uptoBulkAll elems + uptoBulkAll spare + 1
  | .agg parts => uptoBulkAll parts + 1
  | .iface _ d => uptoBulk d + 1
  | .map entries => uptoBulkEntries entries + 1
  | .held _ => 1
def uptoBulkAll {H : Type} : List (DataW H) → Nat
  | [] => 0
  | d :: r => uptoBulk d + uptoBulkAll r
def uptoBulkEntries {H : Type} : List (Lit × DataW H) → Nat
  | [] => 0
  | x :: r => uptoBulkEntry x + uptoBulkEntries r
def uptoBulkEntry {H : Type} : Lit × DataW H → Nat
  | (.string bytes, d) => bytes.length + uptoBulk d + 1
  | (_, d) => uptoBulk d + 1
 end
def uptoSmall : (H : Type) → List (DataW H) → Bool := fun _ ds => decide (uptoBulkAll ds ≤ 1048576)
def OpenSpec.upto (s : _root_.Go.ChangeSpec) : _root_.Go.OpenSpec := { _root_.Go.OpenSpec.ofChange s with cond := some uptoSmall }

/-- 'quipulaw.PairPlays', WHERE WHAT IT READS IS OF BULK AT MOST 1048576: true; the input reads as it did. -/
def pairPlaysUptoRow : OpenClaim := { program := "ytbhhijdpmpcdnaa", sum := "6a04966e1dfa0da02f65e9992cfa4132ab7b36ab450fa1488b0508b8c5cb030a", func := "quipu/quipulaw.PairPlays", spec := "pairPlays", apart := false, narrowed := true }
def PairPlaysUptoSaid : Prop := pairPlaysUptoRow.holds Try.pinned (OpenSpec.upto pairPlaysSpec)

/-- 'quiputop.TopReads', WHERE WHAT IT READS IS OF BULK AT MOST 1048576: true; the input reads as it did. -/
def topReadsUptoRow : OpenClaim := { program := "ytbhhijdpmpcdnaa", sum := "6a04966e1dfa0da02f65e9992cfa4132ab7b36ab450fa1488b0508b8c5cb030a", func := "quipu/quiputop.TopReads", spec := "topReads", apart := false, narrowed := true }
def TopReadsUptoSaid : Prop := topReadsUptoRow.holds Try.pinned (OpenSpec.upto topReadsSpec)

/-- 'quiputop.TopSwitch', WHERE WHAT IT READS IS OF BULK AT MOST 1048576: true; the input reads as it did. -/
def topSwitchUptoRow : OpenClaim := { program := "ytbhhijdpmpcdnaa", sum := "6a04966e1dfa0da02f65e9992cfa4132ab7b36ab450fa1488b0508b8c5cb030a", func := "quipu/quiputop.TopSwitch", spec := "topSwitch", apart := false, narrowed := true }
def TopSwitchUptoSaid : Prop := topSwitchUptoRow.holds Try.pinned (OpenSpec.upto topSwitchSpec)

/-- 'quiputop.TopDiscs', WHERE WHAT IT READS IS OF BULK AT MOST 1048576: true; the input reads as it did. -/
def topDiscsUptoRow : OpenClaim := { program := "ytbhhijdpmpcdnaa", sum := "6a04966e1dfa0da02f65e9992cfa4132ab7b36ab450fa1488b0508b8c5cb030a", func := "quipu/quiputop.TopDiscs", spec := "topDiscs", apart := false, narrowed := true }
def TopDiscsUptoSaid : Prop := topDiscsUptoRow.holds Try.pinned (OpenSpec.upto topDiscsSpec)

end Rows
end Go.Proofs.Ytbhhijdpmpcdnaa

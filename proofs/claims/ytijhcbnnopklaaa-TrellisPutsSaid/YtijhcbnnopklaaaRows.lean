/-
  No cell of these rows narrows 'for every input' (looked for: loops, veiled, ifaces, maps, wideKeys, modest, calm, conditions, laid).
  DERIVED. THE GIVEN ROWS OF THIS SEAT. 12 by the template 'for every input the law returns true; each argument reads behind the call as it read before'; 0 by the template 'total and deterministic' (their statements: YtijhcbnnopklaaaTotals.lean).
  GIVEN WITH THE SEED: the statements are not yours to turn. If you find one false, say at which input.
  Laid BY PROGRAM, IN A SANDBOX (cutbox-rows.mjs): the forced cells as the released guide's own fill.sh prints them over the translation c5a97822ef2b414a… (all of the seat's roots in one cut). By AI agents, Wed Nov 11 2026. No macro, syntax, notation, axiom, sorry.
-/
import Derived.Test.YtijhcbnnopklaaaChecked
import GoSem.Claim
import GoSem.ClaimJoined
import GoSem.ClaimMapViews
import Derived.JoinedTies
import Derived.KernelRfl
namespace Go.Proofs.Ytijhcbnnopklaaa
/- THE CELL 'sum', in the pinned program and in every row, IS THE sha256 OF THE DUMP (.gsa) THAT YtijhcbnnopklaaaProg.lean LOADS. Nothing in Lean hashes anything: it is a label: what it is worth is what the hold of that sum in a sandbox is worth. -/
noncomputable def Try.pinned : Pinned := { name := "ytijhcbnnopklaaa", sum := "c5a97822ef2b414a257c3d07c752572c3ecc9f052b3cfd018cf607590b7e2dd1", checked := Try.checked }
namespace Rows
def none {H : Type} : Left H := { results := [], args := [] }

/-- 'quiputop.TopReads': WHATEVER THE INPUT: true; the input reads as it did. -/
def topReadsSpec : ChangeSpec := { name := "topReads", fn := fun _ => fun
  | [d1, d2, d3] => { results := [.lit (.bool true)], args := [d1, d2, d3] }
  | _ => none }
def topReadsRow : OpenClaim := { program := "ytijhcbnnopklaaa", sum := "c5a97822ef2b414a257c3d07c752572c3ecc9f052b3cfd018cf607590b7e2dd1", func := "quipu/quiputop.TopReads", spec := "topReads", plainKeys := false, apart := false }
def TopReadsSaid : Prop := topReadsRow.holds Try.pinned (OpenSpec.ofChange topReadsSpec)

/-- ITS FALSE NEIGHBOUR: 'it returns false'. Refute it at one input. -/
def topReadsWrong : ChangeSpec := { name := "topReads", fn := fun _ => fun
  | [d1, d2, d3] => { results := [.lit (.bool false)], args := [d1, d2, d3] }
  | _ => none }
def TopReadsWrongFalsely : Prop := topReadsRow.holds Try.pinned (OpenSpec.ofChange topReadsWrong)

/-- 'quipulaw.StateTakes': WHATEVER THE INPUT: true; the input reads as it did. -/
def stateTakesSpec : ChangeSpec := { name := "stateTakes", fn := fun _ => fun
  | [d1, d2] => { results := [.lit (.bool true)], args := [d1, d2] }
  | _ => none }
def stateTakesRow : OpenClaim := { program := "ytijhcbnnopklaaa", sum := "c5a97822ef2b414a257c3d07c752572c3ecc9f052b3cfd018cf607590b7e2dd1", func := "quipu/quipulaw.StateTakes", spec := "stateTakes", plainKeys := false, apart := false }
def StateTakesSaid : Prop := stateTakesRow.holds Try.pinned (OpenSpec.ofChange stateTakesSpec)

/-- ITS FALSE NEIGHBOUR: 'it returns false'. Refute it at one input. -/
def stateTakesWrong : ChangeSpec := { name := "stateTakes", fn := fun _ => fun
  | [d1, d2] => { results := [.lit (.bool false)], args := [d1, d2] }
  | _ => none }
def StateTakesWrongFalsely : Prop := stateTakesRow.holds Try.pinned (OpenSpec.ofChange stateTakesWrong)

/-- 'quipulaw.StatePuts': WHATEVER THE INPUT: true; the input reads as it did. -/
def statePutsSpec : ChangeSpec := { name := "statePuts", fn := fun _ => fun
  | [d1, d2, d3] => { results := [.lit (.bool true)], args := [d1, d2, d3] }
  | _ => none }
def statePutsRow : OpenClaim := { program := "ytijhcbnnopklaaa", sum := "c5a97822ef2b414a257c3d07c752572c3ecc9f052b3cfd018cf607590b7e2dd1", func := "quipu/quipulaw.StatePuts", spec := "statePuts", plainKeys := false, apart := false }
def StatePutsSaid : Prop := statePutsRow.holds Try.pinned (OpenSpec.ofChange statePutsSpec)

/-- ITS FALSE NEIGHBOUR: 'it returns false'. Refute it at one input. -/
def statePutsWrong : ChangeSpec := { name := "statePuts", fn := fun _ => fun
  | [d1, d2, d3] => { results := [.lit (.bool false)], args := [d1, d2, d3] }
  | _ => none }
def StatePutsWrongFalsely : Prop := statePutsRow.holds Try.pinned (OpenSpec.ofChange statePutsWrong)

/-- 'quipulaw.TrellisPuts': WHATEVER THE INPUT: true; the input reads as it did. -/
def trellisPutsSpec : ChangeSpec := { name := "trellisPuts", fn := fun _ => fun
  | [d] => { results := [.lit (.bool true)], args := [d] }
  | _ => none }
def trellisPutsRow : OpenClaim := { program := "ytijhcbnnopklaaa", sum := "c5a97822ef2b414a257c3d07c752572c3ecc9f052b3cfd018cf607590b7e2dd1", func := "quipu/quipulaw.TrellisPuts", spec := "trellisPuts", plainKeys := false, apart := false }
def TrellisPutsSaid : Prop := trellisPutsRow.holds Try.pinned (OpenSpec.ofChange trellisPutsSpec)

/-- ITS FALSE NEIGHBOUR: 'it returns false'. Refute it at one input. -/
def trellisPutsWrong : ChangeSpec := { name := "trellisPuts", fn := fun _ => fun
  | [d] => { results := [.lit (.bool false)], args := [d] }
  | _ => none }
def TrellisPutsWrongFalsely : Prop := trellisPutsRow.holds Try.pinned (OpenSpec.ofChange trellisPutsWrong)

/-- 'quiputop.TopSwitch': WHATEVER THE INPUT: true; the input reads as it did. -/
def topSwitchSpec : ChangeSpec := { name := "topSwitch", fn := fun _ => fun
  | [d1, d2, d3, d4, d5] => { results := [.lit (.bool true)], args := [d1, d2, d3, d4, d5] }
  | _ => none }
def topSwitchRow : OpenClaim := { program := "ytijhcbnnopklaaa", sum := "c5a97822ef2b414a257c3d07c752572c3ecc9f052b3cfd018cf607590b7e2dd1", func := "quipu/quiputop.TopSwitch", spec := "topSwitch", plainKeys := false, apart := false }
def TopSwitchSaid : Prop := topSwitchRow.holds Try.pinned (OpenSpec.ofChange topSwitchSpec)

/-- ITS FALSE NEIGHBOUR: 'it returns false'. Refute it at one input. -/
def topSwitchWrong : ChangeSpec := { name := "topSwitch", fn := fun _ => fun
  | [d1, d2, d3, d4, d5] => { results := [.lit (.bool false)], args := [d1, d2, d3, d4, d5] }
  | _ => none }
def TopSwitchWrongFalsely : Prop := topSwitchRow.holds Try.pinned (OpenSpec.ofChange topSwitchWrong)

/-- 'quiputop.TopDiscs': WHATEVER THE INPUT: true; the input reads as it did. -/
def topDiscsSpec : ChangeSpec := { name := "topDiscs", fn := fun _ => fun
  | [d1, d2, d3] => { results := [.lit (.bool true)], args := [d1, d2, d3] }
  | _ => none }
def topDiscsRow : OpenClaim := { program := "ytijhcbnnopklaaa", sum := "c5a97822ef2b414a257c3d07c752572c3ecc9f052b3cfd018cf607590b7e2dd1", func := "quipu/quiputop.TopDiscs", spec := "topDiscs", plainKeys := false, apart := false }
def TopDiscsSaid : Prop := topDiscsRow.holds Try.pinned (OpenSpec.ofChange topDiscsSpec)

/-- ITS FALSE NEIGHBOUR: 'it returns false'. Refute it at one input. -/
def topDiscsWrong : ChangeSpec := { name := "topDiscs", fn := fun _ => fun
  | [d1, d2, d3] => { results := [.lit (.bool false)], args := [d1, d2, d3] }
  | _ => none }
def TopDiscsWrongFalsely : Prop := topDiscsRow.holds Try.pinned (OpenSpec.ofChange topDiscsWrong)

/-- 'quipulaw.TrellisGets': WHATEVER THE INPUT: true; the input reads as it did. -/
def trellisGetsSpec : ChangeSpec := { name := "trellisGets", fn := fun _ => fun
  | [d] => { results := [.lit (.bool true)], args := [d] }
  | _ => none }
def trellisGetsRow : OpenClaim := { program := "ytijhcbnnopklaaa", sum := "c5a97822ef2b414a257c3d07c752572c3ecc9f052b3cfd018cf607590b7e2dd1", func := "quipu/quipulaw.TrellisGets", spec := "trellisGets", plainKeys := false, apart := false }
def TrellisGetsSaid : Prop := trellisGetsRow.holds Try.pinned (OpenSpec.ofChange trellisGetsSpec)

/-- ITS FALSE NEIGHBOUR: 'it returns false'. Refute it at one input. -/
def trellisGetsWrong : ChangeSpec := { name := "trellisGets", fn := fun _ => fun
  | [d] => { results := [.lit (.bool false)], args := [d] }
  | _ => none }
def TrellisGetsWrongFalsely : Prop := trellisGetsRow.holds Try.pinned (OpenSpec.ofChange trellisGetsWrong)

/-- 'quipulaw.StateWrites': WHATEVER THE INPUT: true; the input reads as it did. -/
def stateWritesSpec : ChangeSpec := { name := "stateWrites", fn := fun _ => fun
  | [d1, d2] => { results := [.lit (.bool true)], args := [d1, d2] }
  | _ => none }
def stateWritesRow : OpenClaim := { program := "ytijhcbnnopklaaa", sum := "c5a97822ef2b414a257c3d07c752572c3ecc9f052b3cfd018cf607590b7e2dd1", func := "quipu/quipulaw.StateWrites", spec := "stateWrites", plainKeys := false, apart := false }
def StateWritesSaid : Prop := stateWritesRow.holds Try.pinned (OpenSpec.ofChange stateWritesSpec)

/-- ITS FALSE NEIGHBOUR: 'it returns false'. Refute it at one input. -/
def stateWritesWrong : ChangeSpec := { name := "stateWrites", fn := fun _ => fun
  | [d1, d2] => { results := [.lit (.bool false)], args := [d1, d2] }
  | _ => none }
def StateWritesWrongFalsely : Prop := stateWritesRow.holds Try.pinned (OpenSpec.ofChange stateWritesWrong)

/-- 'quipulaw.StateReads': WHATEVER THE INPUT: true; the input reads as it did. -/
def stateReadsSpec : ChangeSpec := { name := "stateReads", fn := fun _ => fun
  | [d1, d2, d3] => { results := [.lit (.bool true)], args := [d1, d2, d3] }
  | _ => none }
def stateReadsRow : OpenClaim := { program := "ytijhcbnnopklaaa", sum := "c5a97822ef2b414a257c3d07c752572c3ecc9f052b3cfd018cf607590b7e2dd1", func := "quipu/quipulaw.StateReads", spec := "stateReads", plainKeys := false, apart := false }
def StateReadsSaid : Prop := stateReadsRow.holds Try.pinned (OpenSpec.ofChange stateReadsSpec)

/-- ITS FALSE NEIGHBOUR: 'it returns false'. Refute it at one input. -/
def stateReadsWrong : ChangeSpec := { name := "stateReads", fn := fun _ => fun
  | [d1, d2, d3] => { results := [.lit (.bool false)], args := [d1, d2, d3] }
  | _ => none }
def StateReadsWrongFalsely : Prop := stateReadsRow.holds Try.pinned (OpenSpec.ofChange stateReadsWrong)

/-- 'quipulaw.ShipPlays': WHATEVER THE INPUT: true; the input reads as it did. -/
def shipPlaysSpec : ChangeSpec := { name := "shipPlays", fn := fun _ => fun
  | [d1, d2] => { results := [.lit (.bool true)], args := [d1, d2] }
  | _ => none }
def shipPlaysRow : OpenClaim := { program := "ytijhcbnnopklaaa", sum := "c5a97822ef2b414a257c3d07c752572c3ecc9f052b3cfd018cf607590b7e2dd1", func := "quipu/quipulaw.ShipPlays", spec := "shipPlays", plainKeys := false, apart := false }
def ShipPlaysSaid : Prop := shipPlaysRow.holds Try.pinned (OpenSpec.ofChange shipPlaysSpec)

/-- ITS FALSE NEIGHBOUR: 'it returns false'. Refute it at one input. -/
def shipPlaysWrong : ChangeSpec := { name := "shipPlays", fn := fun _ => fun
  | [d1, d2] => { results := [.lit (.bool false)], args := [d1, d2] }
  | _ => none }
def ShipPlaysWrongFalsely : Prop := shipPlaysRow.holds Try.pinned (OpenSpec.ofChange shipPlaysWrong)

/-- 'quipulaw.StripePlays': WHATEVER THE INPUT: true; the input reads as it did. -/
def stripePlaysSpec : ChangeSpec := { name := "stripePlays", fn := fun _ => fun
  | [d1, d2] => { results := [.lit (.bool true)], args := [d1, d2] }
  | _ => none }
def stripePlaysRow : OpenClaim := { program := "ytijhcbnnopklaaa", sum := "c5a97822ef2b414a257c3d07c752572c3ecc9f052b3cfd018cf607590b7e2dd1", func := "quipu/quipulaw.StripePlays", spec := "stripePlays", plainKeys := false, apart := false }
def StripePlaysSaid : Prop := stripePlaysRow.holds Try.pinned (OpenSpec.ofChange stripePlaysSpec)

/-- ITS FALSE NEIGHBOUR: 'it returns false'. Refute it at one input. -/
def stripePlaysWrong : ChangeSpec := { name := "stripePlays", fn := fun _ => fun
  | [d1, d2] => { results := [.lit (.bool false)], args := [d1, d2] }
  | _ => none }
def StripePlaysWrongFalsely : Prop := stripePlaysRow.holds Try.pinned (OpenSpec.ofChange stripePlaysWrong)

/-- 'quipulaw.PairPlays': WHATEVER THE INPUT: true; the input reads as it did. -/
def pairPlaysSpec : ChangeSpec := { name := "pairPlays", fn := fun _ => fun
  | [d1, d2, d3] => { results := [.lit (.bool true)], args := [d1, d2, d3] }
  | _ => none }
def pairPlaysRow : OpenClaim := { program := "ytijhcbnnopklaaa", sum := "c5a97822ef2b414a257c3d07c752572c3ecc9f052b3cfd018cf607590b7e2dd1", func := "quipu/quipulaw.PairPlays", spec := "pairPlays", plainKeys := false, apart := false }
def PairPlaysSaid : Prop := pairPlaysRow.holds Try.pinned (OpenSpec.ofChange pairPlaysSpec)

/-- ITS FALSE NEIGHBOUR: 'it returns false'. Refute it at one input. -/
def pairPlaysWrong : ChangeSpec := { name := "pairPlays", fn := fun _ => fun
  | [d1, d2, d3] => { results := [.lit (.bool false)], args := [d1, d2, d3] }
  | _ => none }
def PairPlaysWrongFalsely : Prop := pairPlaysRow.holds Try.pinned (OpenSpec.ofChange pairPlaysWrong)

/- THE SECOND FORM. 'bulk': how many values and letters a reading holds, each counted each time it is reached (what is shared counts as often as it is met; a slice's spare places count too). A statement '..UptoSaid' is the law's where the arguments, and the package variables that the reading takes, are together of bulk at most 1048576: NARROWER than '..Said'. Prove '..Said' where nothing that the law and all that it calls make is longer than what came in: it says more and counts as full. Else prove '..UptoSaid'. A law counts once. -/
mutual
def uptoBulk {H : Type} : DataW H → Nat
  | .lit (.string bytes) => bytes.length + 1
  | .lit _ => 1
  | .nil => 1
  | .ptr d => uptoBulk d + 1
  | .slice elems spare => uptoBulkAll elems + uptoBulkAll spare + 1
  | .agg parts => uptoBulkAll parts + 1
  | .iface _ d => uptoBulk d + 1
  | .map entries => uptoBulkEntries entries + 1
  | .held _ => 1
def uptoBulkAll {H : Type} : List (DataW H) → Nat
  | [] => 0
  | d :: r => uptoBulk d + uptoBulkAll r
def uptoBulkEntries {H : Type} : List (Lit × DataW H) → Nat
  | [] => 0
  | x :: r => uptoBulkEntry x + uptoBulkEntries r
def uptoBulkEntry {H : Type} : Lit × DataW H → Nat
  | (.string bytes, d) => bytes.length + uptoBulk d + 1
  | (_, d) => uptoBulk d + 1
 end
def uptoSmall : (H : Type) → List (DataW H) → Bool := fun _ ds => decide (uptoBulkAll ds ≤ 1048576)
def OpenSpec.upto (s : _root_.Go.ChangeSpec) : _root_.Go.OpenSpec := { _root_.Go.OpenSpec.ofChange s with cond := some uptoSmall }

/-- 'quiputop.TopReads', WHERE WHAT IT READS IS OF BULK AT MOST 1048576: true; the input reads as it did. -/
def topReadsUptoRow : OpenClaim := { program := "ytijhcbnnopklaaa", sum := "c5a97822ef2b414a257c3d07c752572c3ecc9f052b3cfd018cf607590b7e2dd1", func := "quipu/quiputop.TopReads", spec := "topReads", plainKeys := false, apart := false, narrowed := true }
def TopReadsUptoSaid : Prop := topReadsUptoRow.holds Try.pinned (OpenSpec.upto topReadsSpec)

/-- 'quipulaw.StateTakes', WHERE WHAT IT READS IS OF BULK AT MOST 1048576: true; the input reads as it did. -/
def stateTakesUptoRow : OpenClaim := { program := "ytijhcbnnopklaaa", sum := "c5a97822ef2b414a257c3d07c752572c3ecc9f052b3cfd018cf607590b7e2dd1", func := "quipu/quipulaw.StateTakes", spec := "stateTakes", plainKeys := false, apart := false, narrowed := true }
def StateTakesUptoSaid : Prop := stateTakesUptoRow.holds Try.pinned (OpenSpec.upto stateTakesSpec)

/-- 'quipulaw.StatePuts', WHERE WHAT IT READS IS OF BULK AT MOST 1048576: true; the input reads as it did. -/
def statePutsUptoRow : OpenClaim := { program := "ytijhcbnnopklaaa", sum := "c5a97822ef2b414a257c3d07c752572c3ecc9f052b3cfd018cf607590b7e2dd1", func := "quipu/quipulaw.StatePuts", spec := "statePuts", plainKeys := false, apart := false, narrowed := true }
def StatePutsUptoSaid : Prop := statePutsUptoRow.holds Try.pinned (OpenSpec.upto statePutsSpec)

/-- 'quipulaw.TrellisPuts', WHERE WHAT IT READS IS OF BULK AT MOST 1048576: true; the input reads as it did. -/
def trellisPutsUptoRow : OpenClaim := { program := "ytijhcbnnopklaaa", sum := "c5a97822ef2b414a257c3d07c752572c3ecc9f052b3cfd018cf607590b7e2dd1", func := "quipu/quipulaw.TrellisPuts", spec := "trellisPuts", plainKeys := false, apart := false, narrowed := true }
def TrellisPutsUptoSaid : Prop := trellisPutsUptoRow.holds Try.pinned (OpenSpec.upto trellisPutsSpec)

/-- 'quiputop.TopSwitch', WHERE WHAT IT READS IS OF BULK AT MOST 1048576: true; the input reads as it did. -/
def topSwitchUptoRow : OpenClaim := { program := "ytijhcbnnopklaaa", sum := "c5a97822ef2b414a257c3d07c752572c3ecc9f052b3cfd018cf607590b7e2dd1", func := "quipu/quiputop.TopSwitch", spec := "topSwitch", plainKeys := false, apart := false, narrowed := true }
def TopSwitchUptoSaid : Prop := topSwitchUptoRow.holds Try.pinned (OpenSpec.upto topSwitchSpec)

/-- 'quiputop.TopDiscs', WHERE WHAT IT READS IS OF BULK AT MOST 1048576: true; the input reads as it did. -/
def topDiscsUptoRow : OpenClaim := { program := "ytijhcbnnopklaaa", sum := "c5a97822ef2b414a257c3d07c752572c3ecc9f052b3cfd018cf607590b7e2dd1", func := "quipu/quiputop.TopDiscs", spec := "topDiscs", plainKeys := false, apart := false, narrowed := true }
def TopDiscsUptoSaid : Prop := topDiscsUptoRow.holds Try.pinned (OpenSpec.upto topDiscsSpec)

/-- 'quipulaw.TrellisGets', WHERE WHAT IT READS IS OF BULK AT MOST 1048576: true; the input reads as it did. -/
def trellisGetsUptoRow : OpenClaim := { program := "ytijhcbnnopklaaa", sum := "c5a97822ef2b414a257c3d07c752572c3ecc9f052b3cfd018cf607590b7e2dd1", func := "quipu/quipulaw.TrellisGets", spec := "trellisGets", plainKeys := false, apart := false, narrowed := true }
def TrellisGetsUptoSaid : Prop := trellisGetsUptoRow.holds Try.pinned (OpenSpec.upto trellisGetsSpec)

/-- 'quipulaw.StateWrites', WHERE WHAT IT READS IS OF BULK AT MOST 1048576: true; the input reads as it did. -/
def stateWritesUptoRow : OpenClaim := { program := "ytijhcbnnopklaaa", sum := "c5a97822ef2b414a257c3d07c752572c3ecc9f052b3cfd018cf607590b7e2dd1", func := "quipu/quipulaw.StateWrites", spec := "stateWrites", plainKeys := false, apart := false, narrowed := true }
def StateWritesUptoSaid : Prop := stateWritesUptoRow.holds Try.pinned (OpenSpec.upto stateWritesSpec)

/-- 'quipulaw.StateReads', WHERE WHAT IT READS IS OF BULK AT MOST 1048576: true; the input reads as it did. -/
def stateReadsUptoRow : OpenClaim := { program := "ytijhcbnnopklaaa", sum := "c5a97822ef2b414a257c3d07c752572c3ecc9f052b3cfd018cf607590b7e2dd1", func := "quipu/quipulaw.StateReads", spec := "stateReads", plainKeys := false, apart := false, narrowed := true }
def StateReadsUptoSaid : Prop := stateReadsUptoRow.holds Try.pinned (OpenSpec.upto stateReadsSpec)

/-- 'quipulaw.ShipPlays', WHERE WHAT IT READS IS OF BULK AT MOST 1048576: true; the input reads as it did. -/
def shipPlaysUptoRow : OpenClaim := { program := "ytijhcbnnopklaaa", sum := "c5a97822ef2b414a257c3d07c752572c3ecc9f052b3cfd018cf607590b7e2dd1", func := "quipu/quipulaw.ShipPlays", spec := "shipPlays", plainKeys := false, apart := false, narrowed := true }
def ShipPlaysUptoSaid : Prop := shipPlaysUptoRow.holds Try.pinned (OpenSpec.upto shipPlaysSpec)

/-- 'quipulaw.StripePlays', WHERE WHAT IT READS IS OF BULK AT MOST 1048576: true; the input reads as it did. -/
def stripePlaysUptoRow : OpenClaim := { program := "ytijhcbnnopklaaa", sum := "c5a97822ef2b414a257c3d07c752572c3ecc9f052b3cfd018cf607590b7e2dd1", func := "quipu/quipulaw.StripePlays", spec := "stripePlays", plainKeys := false, apart := false, narrowed := true }
def StripePlaysUptoSaid : Prop := stripePlaysUptoRow.holds Try.pinned (OpenSpec.upto stripePlaysSpec)

/-- 'quipulaw.PairPlays', WHERE WHAT IT READS IS OF BULK AT MOST 1048576: true; the input reads as it did. -/
def pairPlaysUptoRow : OpenClaim := { program := "ytijhcbnnopklaaa", sum := "c5a97822ef2b414a257c3d07c752572c3ecc9f052b3cfd018cf607590b7e2dd1", func := "quipu/quipulaw.PairPlays", spec := "pairPlays", plainKeys := false, apart := false, narrowed := true }
def PairPlaysUptoSaid : Prop := pairPlaysUptoRow.holds Try.pinned (OpenSpec.upto pairPlaysSpec)

end Rows
end Go.Proofs.Ytijhcbnnopklaaa

/-
  No cell of these rows narrows 'for every input' (looked for: loops, veiled, ifaces, maps, wideKeys, modest, calm, conditions, laid).
  DERIVED. THE GIVEN ROWS OF THIS SEAT. 6 by the template 'for every input the law returns true; each argument reads behind the call as it read before'; 0 by the template 'total and deterministic' (their statements: YtglcljlafioleaaTotals.lean).
  GIVEN WITH THE SEED: the statements are not yours to turn. If you find one false, say at which input.
  Laid BY PROGRAM, IN A SANDBOX (cutbox-rows.mjs): the forced cells as the released guide's own fill.sh prints them over the translation 9f4aaec74f7f2681… (all of the seat's roots in one cut). By AI agents, Wed Nov 11 2026. No macro, syntax, notation, axiom, sorry.
-/
import Derived.Test.YtglcljlafioleaaChecked
import GoSem.Claim
import GoSem.ClaimJoined
import GoSem.ClaimMapViews
import Derived.JoinedTies
import Derived.KernelRfl
namespace Go.Proofs.Ytglcljlafioleaa
/- THE CELL 'sum', in the pinned program and in every row, IS THE sha256 OF THE DUMP (.gsa) THAT YtglcljlafioleaaProg.lean LOADS. Nothing in Lean hashes anything: it is a label: what it is worth is what the hold of that sum in a sandbox is worth. -/
noncomputable def Try.pinned : Pinned := { name := "ytglcljlafioleaa", sum := "9f4aaec74f7f2681c88f26d809feeece4b37487d7e166d2850488edaaf88adb6", checked := Try.checked }
namespace Rows
def none {H : Type} : Left H := { results := [], args := [] }

/-- 'quipulaw.PhraseParses': WHATEVER THE INPUT: true; the input reads as it did. -/
def phraseParsesSpec : ChangeSpec := { name := "phraseParses", fn := fun _ => fun
  | [d] => { results := [.lit (.bool true)], args := [d] }
  | _ => none }
def phraseParsesRow : OpenClaim := { program := "ytglcljlafioleaa", sum := "9f4aaec74f7f2681c88f26d809feeece4b37487d7e166d2850488edaaf88adb6", func := "quipu/quipulaw.PhraseParses", spec := "phraseParses", plainKeys := false, apart := false }
def PhraseParsesSaid : Prop := phraseParsesRow.holds Try.pinned (OpenSpec.ofChange phraseParsesSpec)

/-- ITS FALSE NEIGHBOUR: 'it returns false'. Refute it at one input. -/
def phraseParsesWrong : ChangeSpec := { name := "phraseParses", fn := fun _ => fun
  | [d] => { results := [.lit (.bool false)], args := [d] }
  | _ => none }
def PhraseParsesWrongFalsely : Prop := phraseParsesRow.holds Try.pinned (OpenSpec.ofChange phraseParsesWrong)

/-- 'quipulaw.PhraseJoins': WHATEVER THE INPUT: true; the input reads as it did. -/
def phraseJoinsSpec : ChangeSpec := { name := "phraseJoins", fn := fun _ => fun
  | [d] => { results := [.lit (.bool true)], args := [d] }
  | _ => none }
def phraseJoinsRow : OpenClaim := { program := "ytglcljlafioleaa", sum := "9f4aaec74f7f2681c88f26d809feeece4b37487d7e166d2850488edaaf88adb6", func := "quipu/quipulaw.PhraseJoins", spec := "phraseJoins", plainKeys := false, apart := false }
def PhraseJoinsSaid : Prop := phraseJoinsRow.holds Try.pinned (OpenSpec.ofChange phraseJoinsSpec)

/-- ITS FALSE NEIGHBOUR: 'it returns false'. Refute it at one input. -/
def phraseJoinsWrong : ChangeSpec := { name := "phraseJoins", fn := fun _ => fun
  | [d] => { results := [.lit (.bool false)], args := [d] }
  | _ => none }
def PhraseJoinsWrongFalsely : Prop := phraseJoinsRow.holds Try.pinned (OpenSpec.ofChange phraseJoinsWrong)

/-- 'quipulaw.AlphaCosts': WHATEVER THE INPUT: true; the input reads as it did. -/
def alphaCostsSpec : ChangeSpec := { name := "alphaCosts", fn := fun _ => fun
  | [d] => { results := [.lit (.bool true)], args := [d] }
  | _ => none }
def alphaCostsRow : OpenClaim := { program := "ytglcljlafioleaa", sum := "9f4aaec74f7f2681c88f26d809feeece4b37487d7e166d2850488edaaf88adb6", func := "quipu/quipulaw.AlphaCosts", spec := "alphaCosts", unfollowed := true, recurses := true, plainKeys := false, apart := false }
def AlphaCostsSaid : Prop := alphaCostsRow.holds Try.pinned (OpenSpec.ofChange alphaCostsSpec)

/-- ITS FALSE NEIGHBOUR: 'it returns false'. Refute it at one input. -/
def alphaCostsWrong : ChangeSpec := { name := "alphaCosts", fn := fun _ => fun
  | [d] => { results := [.lit (.bool false)], args := [d] }
  | _ => none }
def AlphaCostsWrongFalsely : Prop := alphaCostsRow.holds Try.pinned (OpenSpec.ofChange alphaCostsWrong)

/-- 'quipulaw.AlphaLens': WHATEVER THE INPUT: true; the input reads as it did. -/
def alphaLensSpec : ChangeSpec := { name := "alphaLens", fn := fun _ => fun
  | [d] => { results := [.lit (.bool true)], args := [d] }
  | _ => none }
def alphaLensRow : OpenClaim := { program := "ytglcljlafioleaa", sum := "9f4aaec74f7f2681c88f26d809feeece4b37487d7e166d2850488edaaf88adb6", func := "quipu/quipulaw.AlphaLens", spec := "alphaLens", unfollowed := true, recurses := true, plainKeys := false, apart := false }
def AlphaLensSaid : Prop := alphaLensRow.holds Try.pinned (OpenSpec.ofChange alphaLensSpec)

/-- ITS FALSE NEIGHBOUR: 'it returns false'. Refute it at one input. -/
def alphaLensWrong : ChangeSpec := { name := "alphaLens", fn := fun _ => fun
  | [d] => { results := [.lit (.bool false)], args := [d] }
  | _ => none }
def AlphaLensWrongFalsely : Prop := alphaLensRow.holds Try.pinned (OpenSpec.ofChange alphaLensWrong)

/-- 'quipulaw.ShipPlays': WHATEVER THE INPUT: true; the input reads as it did. -/
def shipPlaysSpec : ChangeSpec := { name := "shipPlays", fn := fun _ => fun
  | [d1, d2] => { results := [.lit (.bool true)], args := [d1, d2] }
  | _ => none }
def shipPlaysRow : OpenClaim := { program := "ytglcljlafioleaa", sum := "9f4aaec74f7f2681c88f26d809feeece4b37487d7e166d2850488edaaf88adb6", func := "quipu/quipulaw.ShipPlays", spec := "shipPlays", plainKeys := false, apart := false }
def ShipPlaysSaid : Prop := shipPlaysRow.holds Try.pinned (OpenSpec.ofChange shipPlaysSpec)

/-- ITS FALSE NEIGHBOUR: 'it returns false'. Refute it at one input. -/
def shipPlaysWrong : ChangeSpec := { name := "shipPlays", fn := fun _ => fun
  | [d1, d2] => { results := [.lit (.bool false)], args := [d1, d2] }
  | _ => none }
def ShipPlaysWrongFalsely : Prop := shipPlaysRow.holds Try.pinned (OpenSpec.ofChange shipPlaysWrong)

/-- 'quipulaw.StripePlays': WHATEVER THE INPUT: true; the input reads as it did. -/
def stripePlaysSpec : ChangeSpec := { name := "stripePlays", fn := fun _ => fun
  | [d1, d2] => { results := [.lit (.bool true)], args := [d1, d2] }
  | _ => none }
def stripePlaysRow : OpenClaim := { program := "ytglcljlafioleaa", sum := "9f4aaec74f7f2681c88f26d809feeece4b37487d7e166d2850488edaaf88adb6", func := "quipu/quipulaw.StripePlays", spec := "stripePlays", plainKeys := false, apart := false }
def StripePlaysSaid : Prop := stripePlaysRow.holds Try.pinned (OpenSpec.ofChange stripePlaysSpec)

/-- ITS FALSE NEIGHBOUR: 'it returns false'. Refute it at one input. -/
def stripePlaysWrong : ChangeSpec := { name := "stripePlays", fn := fun _ => fun
  | [d1, d2] => { results := [.lit (.bool false)], args := [d1, d2] }
  | _ => none }
def StripePlaysWrongFalsely : Prop := stripePlaysRow.holds Try.pinned (OpenSpec.ofChange stripePlaysWrong)

/- THE SECOND FORM. 'bulk': how many values and letters a reading holds, each counted each time it is reached (what is shared counts as often as it is met; a slice's spare places count too). A statement '..UptoSaid' is the law's where the arguments, and the package variables that the reading takes, are together of bulk at most 1048576: NARROWER than '..Said'. Prove '..Said' where nothing that the law and all that it calls make is longer than what came in: it says more and counts as full. Else prove '..UptoSaid'. A law counts once. -/
mutual
def uptoBulk {H : Type} : DataW H → Nat
  | .lit (.string bytes) => bytes.length + 1
  | .lit _ => 1
  | .nil => 1
  | .ptr d => uptoBulk d + 1
  | .slice elems spare => uptoBulkAll elems + uptoBulkAll spare + 1
  | .agg parts => uptoBulkAll parts + 1
  | .iface _ d => uptoBulk d + 1
  | .map entries => uptoBulkEntries entries + 1
  | .held _ => 1
def uptoBulkAll {H : Type} : List (DataW H) → Nat
  | [] => 0
  | d :: r => uptoBulk d + uptoBulkAll r
def uptoBulkEntries {H : Type} : List (Lit × DataW H) → Nat
  | [] => 0
  | x :: r => uptoBulkEntry x + uptoBulkEntries r
def uptoBulkEntry {H : Type} : Lit × DataW H → Nat
  | (.string bytes, d) => bytes.length + uptoBulk d + 1
  | (_, d) => uptoBulk d + 1
 end
def uptoSmall : (H : Type) → List (DataW H) → Bool := fun _ ds => decide (uptoBulkAll ds ≤ 1048576)
def OpenSpec.upto (s : _root_.Go.ChangeSpec) : _root_.Go.OpenSpec := { _root_.Go.OpenSpec.ofChange s with cond := some uptoSmall }

/-- 'quipulaw.PhraseParses', WHERE WHAT IT READS IS OF BULK AT MOST 1048576: true; the input reads as it did. -/
def phraseParsesUptoRow : OpenClaim := { program := "ytglcljlafioleaa", sum := "9f4aaec74f7f2681c88f26d809feeece4b37487d7e166d2850488edaaf88adb6", func := "quipu/quipulaw.PhraseParses", spec := "phraseParses", plainKeys := false, apart := false, narrowed := true }
def PhraseParsesUptoSaid : Prop := phraseParsesUptoRow.holds Try.pinned (OpenSpec.upto phraseParsesSpec)

/-- 'quipulaw.PhraseJoins', WHERE WHAT IT READS IS OF BULK AT MOST 1048576: true; the input reads as it did. -/
def phraseJoinsUptoRow : OpenClaim := { program := "ytglcljlafioleaa", sum := "9f4aaec74f7f2681c88f26d809feeece4b37487d7e166d2850488edaaf88adb6", func := "quipu/quipulaw.PhraseJoins", spec := "phraseJoins", plainKeys := false, apart := false, narrowed := true }
def PhraseJoinsUptoSaid : Prop := phraseJoinsUptoRow.holds Try.pinned (OpenSpec.upto phraseJoinsSpec)

/-- 'quipulaw.AlphaCosts', WHERE WHAT IT READS IS OF BULK AT MOST 1048576: true; the input reads as it did. -/
def alphaCostsUptoRow : OpenClaim := { program := "ytglcljlafioleaa", sum := "9f4aaec74f7f2681c88f26d809feeece4b37487d7e166d2850488edaaf88adb6", func := "quipu/quipulaw.AlphaCosts", spec := "alphaCosts", unfollowed := true, recurses := true, plainKeys := false, apart := false, narrowed := true }
def AlphaCostsUptoSaid : Prop := alphaCostsUptoRow.holds Try.pinned (OpenSpec.upto alphaCostsSpec)

/-- 'quipulaw.AlphaLens', WHERE WHAT IT READS IS OF BULK AT MOST 1048576: true; the input reads as it did. -/
def alphaLensUptoRow : OpenClaim := { program := "ytglcljlafioleaa", sum := "9f4aaec74f7f2681c88f26d809feeece4b37487d7e166d2850488edaaf88adb6", func := "quipu/quipulaw.AlphaLens", spec := "alphaLens", unfollowed := true, recurses := true, plainKeys := false, apart := false, narrowed := true }
def AlphaLensUptoSaid : Prop := alphaLensUptoRow.holds Try.pinned (OpenSpec.upto alphaLensSpec)

/-- 'quipulaw.ShipPlays', WHERE WHAT IT READS IS OF BULK AT MOST 1048576: true; the input reads as it did. -/
def shipPlaysUptoRow : OpenClaim := { program := "ytglcljlafioleaa", sum := "9f4aaec74f7f2681c88f26d809feeece4b37487d7e166d2850488edaaf88adb6", func := "quipu/quipulaw.ShipPlays", spec := "shipPlays", plainKeys := false, apart := false, narrowed := true }
def ShipPlaysUptoSaid : Prop := shipPlaysUptoRow.holds Try.pinned (OpenSpec.upto shipPlaysSpec)

/-- 'quipulaw.StripePlays', WHERE WHAT IT READS IS OF BULK AT MOST 1048576: true; the input reads as it did. -/
def stripePlaysUptoRow : OpenClaim := { program := "ytglcljlafioleaa", sum := "9f4aaec74f7f2681c88f26d809feeece4b37487d7e166d2850488edaaf88adb6", func := "quipu/quipulaw.StripePlays", spec := "stripePlays", plainKeys := false, apart := false, narrowed := true }
def StripePlaysUptoSaid : Prop := stripePlaysUptoRow.holds Try.pinned (OpenSpec.upto stripePlaysSpec)

end Rows
end Go.Proofs.Ytglcljlafioleaa

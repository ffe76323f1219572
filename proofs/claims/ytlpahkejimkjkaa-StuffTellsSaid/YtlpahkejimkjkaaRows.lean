/-
  No cell of these rows narrows 'for every input' (looked for: loops, veiled, ifaces, maps, wideKeys, modest, calm, conditions, laid).
  DERIVED. THE GIVEN ROWS OF THIS SEAT. 12 by the template 'for every input the law returns true; each argument reads behind the call as it read before'; 0 by the template 'total and deterministic' (their statements: YtlpahkejimkjkaaTotals.lean).
  GIVEN WITH THE SEED: the statements are not yours to turn. If you find one false, say at which input.
  Laid BY PROGRAM, IN A SANDBOX (cutbox-rows.mjs): the forced cells as the released guide's own fill.sh prints them over the translation f25e9eded8c27b07… (all of the seat's roots in one cut). By AI agents, Wed Nov 11 2026. No macro, syntax, notation, axiom, sorry.
-/
import Derived.Test.YtlpahkejimkjkaaChecked
import GoSem.Claim
import GoSem.ClaimJoined
import GoSem.ClaimMapViews
import Derived.JoinedTies
import Derived.KernelRfl
namespace Go.Proofs.Ytlpahkejimkjkaa
/- THE CELL 'sum', in the pinned program and in every row, IS THE sha256 OF THE DUMP (.gsa) THAT YtlpahkejimkjkaaProg.lean LOADS. Nothing in Lean hashes anything: it is a label: what it is worth is what the hold of that sum in a sandbox is worth. -/
noncomputable def Try.pinned : Pinned := { name := "ytlpahkejimkjkaa", sum := "f25e9eded8c27b0780637df5caef59f6a0d2e11aef499d45904c0007800d73a3", checked := Try.checked }
namespace Rows
def none {H : Type} : Left H := { results := [], args := [] }

/-- 'quipulaw.KraftSums': WHATEVER THE INPUT: true; the input reads as it did. -/
def kraftSumsSpec : ChangeSpec := { name := "kraftSums", fn := fun _ => fun
  | [d] => { results := [.lit (.bool true)], args := [d] }
  | _ => none }
def kraftSumsRow : OpenClaim := { program := "ytlpahkejimkjkaa", sum := "f25e9eded8c27b0780637df5caef59f6a0d2e11aef499d45904c0007800d73a3", func := "quipu/quipulaw.KraftSums", spec := "kraftSums", plainKeys := false, apart := false }
def KraftSumsSaid : Prop := kraftSumsRow.holds Try.pinned (OpenSpec.ofChange kraftSumsSpec)

/-- ITS FALSE NEIGHBOUR: 'it returns false'. Refute it at one input. -/
def kraftSumsWrong : ChangeSpec := { name := "kraftSums", fn := fun _ => fun
  | [d] => { results := [.lit (.bool false)], args := [d] }
  | _ => none }
def KraftSumsWrongFalsely : Prop := kraftSumsRow.holds Try.pinned (OpenSpec.ofChange kraftSumsWrong)

/-- 'quipulaw.DropSums': WHATEVER THE INPUT: true; the input reads as it did. -/
def dropSumsSpec : ChangeSpec := { name := "dropSums", fn := fun _ => fun
  | [d] => { results := [.lit (.bool true)], args := [d] }
  | _ => none }
def dropSumsRow : OpenClaim := { program := "ytlpahkejimkjkaa", sum := "f25e9eded8c27b0780637df5caef59f6a0d2e11aef499d45904c0007800d73a3", func := "quipu/quipulaw.DropSums", spec := "dropSums", plainKeys := false, apart := false }
def DropSumsSaid : Prop := dropSumsRow.holds Try.pinned (OpenSpec.ofChange dropSumsSpec)

/-- ITS FALSE NEIGHBOUR: 'it returns false'. Refute it at one input. -/
def dropSumsWrong : ChangeSpec := { name := "dropSums", fn := fun _ => fun
  | [d] => { results := [.lit (.bool false)], args := [d] }
  | _ => none }
def DropSumsWrongFalsely : Prop := dropSumsRow.holds Try.pinned (OpenSpec.ofChange dropSumsWrong)

/-- 'quipulaw.PrefixChecks': WHATEVER THE INPUT: true; the input reads as it did. -/
def prefixChecksSpec : ChangeSpec := { name := "prefixChecks", fn := fun _ => fun
  | [d] => { results := [.lit (.bool true)], args := [d] }
  | _ => none }
def prefixChecksRow : OpenClaim := { program := "ytlpahkejimkjkaa", sum := "f25e9eded8c27b0780637df5caef59f6a0d2e11aef499d45904c0007800d73a3", func := "quipu/quipulaw.PrefixChecks", spec := "prefixChecks", unfollowed := true, recurses := true, plainKeys := false, apart := false }
def PrefixChecksSaid : Prop := prefixChecksRow.holds Try.pinned (OpenSpec.ofChange prefixChecksSpec)

/-- ITS FALSE NEIGHBOUR: 'it returns false'. Refute it at one input. -/
def prefixChecksWrong : ChangeSpec := { name := "prefixChecks", fn := fun _ => fun
  | [d] => { results := [.lit (.bool false)], args := [d] }
  | _ => none }
def PrefixChecksWrongFalsely : Prop := prefixChecksRow.holds Try.pinned (OpenSpec.ofChange prefixChecksWrong)

/-- 'quipulaw.GrayCodes': WHATEVER THE INPUT: true; the input reads as it did. -/
def grayCodesSpec : ChangeSpec := { name := "grayCodes", fn := fun _ => fun
  | [d1, d2] => { results := [.lit (.bool true)], args := [d1, d2] }
  | _ => none }
def grayCodesRow : OpenClaim := { program := "ytlpahkejimkjkaa", sum := "f25e9eded8c27b0780637df5caef59f6a0d2e11aef499d45904c0007800d73a3", func := "quipu/quipulaw.GrayCodes", spec := "grayCodes", plainKeys := false, apart := false }
def GrayCodesSaid : Prop := grayCodesRow.holds Try.pinned (OpenSpec.ofChange grayCodesSpec)

/-- ITS FALSE NEIGHBOUR: 'it returns false'. Refute it at one input. -/
def grayCodesWrong : ChangeSpec := { name := "grayCodes", fn := fun _ => fun
  | [d1, d2] => { results := [.lit (.bool false)], args := [d1, d2] }
  | _ => none }
def GrayCodesWrongFalsely : Prop := grayCodesRow.holds Try.pinned (OpenSpec.ofChange grayCodesWrong)

/-- 'quipulaw.RankManies': WHATEVER THE INPUT: true; the input reads as it did. -/
def rankManiesSpec : ChangeSpec := { name := "rankManies", fn := fun _ => fun
  | [d1, d2] => { results := [.lit (.bool true)], args := [d1, d2] }
  | _ => none }
def rankManiesRow : OpenClaim := { program := "ytlpahkejimkjkaa", sum := "f25e9eded8c27b0780637df5caef59f6a0d2e11aef499d45904c0007800d73a3", func := "quipu/quipulaw.RankManies", spec := "rankManies", plainKeys := false, apart := false }
def RankManiesSaid : Prop := rankManiesRow.holds Try.pinned (OpenSpec.ofChange rankManiesSpec)

/-- ITS FALSE NEIGHBOUR: 'it returns false'. Refute it at one input. -/
def rankManiesWrong : ChangeSpec := { name := "rankManies", fn := fun _ => fun
  | [d1, d2] => { results := [.lit (.bool false)], args := [d1, d2] }
  | _ => none }
def RankManiesWrongFalsely : Prop := rankManiesRow.holds Try.pinned (OpenSpec.ofChange rankManiesWrong)

/-- 'quipulaw.StripePlaces': WHATEVER THE INPUT: true; the input reads as it did. -/
def stripePlacesSpec : ChangeSpec := { name := "stripePlaces", fn := fun _ => fun
  | [d1, d2] => { results := [.lit (.bool true)], args := [d1, d2] }
  | _ => none }
def stripePlacesRow : OpenClaim := { program := "ytlpahkejimkjkaa", sum := "f25e9eded8c27b0780637df5caef59f6a0d2e11aef499d45904c0007800d73a3", func := "quipu/quipulaw.StripePlaces", spec := "stripePlaces", plainKeys := false, apart := false }
def StripePlacesSaid : Prop := stripePlacesRow.holds Try.pinned (OpenSpec.ofChange stripePlacesSpec)

/-- ITS FALSE NEIGHBOUR: 'it returns false'. Refute it at one input. -/
def stripePlacesWrong : ChangeSpec := { name := "stripePlaces", fn := fun _ => fun
  | [d1, d2] => { results := [.lit (.bool false)], args := [d1, d2] }
  | _ => none }
def StripePlacesWrongFalsely : Prop := stripePlacesRow.holds Try.pinned (OpenSpec.ofChange stripePlacesWrong)

/-- 'quipulaw.BallDists': WHATEVER THE INPUT: true; the input reads as it did. -/
def ballDistsSpec : ChangeSpec := { name := "ballDists", fn := fun _ => fun
  | [d1, d2, d3] => { results := [.lit (.bool true)], args := [d1, d2, d3] }
  | _ => none }
def ballDistsRow : OpenClaim := { program := "ytlpahkejimkjkaa", sum := "f25e9eded8c27b0780637df5caef59f6a0d2e11aef499d45904c0007800d73a3", func := "quipu/quipulaw.BallDists", spec := "ballDists", plainKeys := false, apart := false }
def BallDistsSaid : Prop := ballDistsRow.holds Try.pinned (OpenSpec.ofChange ballDistsSpec)

/-- ITS FALSE NEIGHBOUR: 'it returns false'. Refute it at one input. -/
def ballDistsWrong : ChangeSpec := { name := "ballDists", fn := fun _ => fun
  | [d1, d2, d3] => { results := [.lit (.bool false)], args := [d1, d2, d3] }
  | _ => none }
def BallDistsWrongFalsely : Prop := ballDistsRow.holds Try.pinned (OpenSpec.ofChange ballDistsWrong)

/-- 'quipulaw.GrayPlaces': WHATEVER THE INPUT: true; the input reads as it did. -/
def grayPlacesSpec : ChangeSpec := { name := "grayPlaces", fn := fun _ => fun
  | [d1, d2] => { results := [.lit (.bool true)], args := [d1, d2] }
  | _ => none }
def grayPlacesRow : OpenClaim := { program := "ytlpahkejimkjkaa", sum := "f25e9eded8c27b0780637df5caef59f6a0d2e11aef499d45904c0007800d73a3", func := "quipu/quipulaw.GrayPlaces", spec := "grayPlaces", plainKeys := false, apart := false }
def GrayPlacesSaid : Prop := grayPlacesRow.holds Try.pinned (OpenSpec.ofChange grayPlacesSpec)

/-- ITS FALSE NEIGHBOUR: 'it returns false'. Refute it at one input. -/
def grayPlacesWrong : ChangeSpec := { name := "grayPlaces", fn := fun _ => fun
  | [d1, d2] => { results := [.lit (.bool false)], args := [d1, d2] }
  | _ => none }
def GrayPlacesWrongFalsely : Prop := grayPlacesRow.holds Try.pinned (OpenSpec.ofChange grayPlacesWrong)

/-- 'quipulaw.StuffTells': WHATEVER THE INPUT: true; the input reads as it did. -/
def stuffTellsSpec : ChangeSpec := { name := "stuffTells", fn := fun _ => fun
  | [d] => { results := [.lit (.bool true)], args := [d] }
  | _ => none }
def stuffTellsRow : OpenClaim := { program := "ytlpahkejimkjkaa", sum := "f25e9eded8c27b0780637df5caef59f6a0d2e11aef499d45904c0007800d73a3", func := "quipu/quipulaw.StuffTells", spec := "stuffTells", plainKeys := false, apart := false }
def StuffTellsSaid : Prop := stuffTellsRow.holds Try.pinned (OpenSpec.ofChange stuffTellsSpec)

/-- ITS FALSE NEIGHBOUR: 'it returns false'. Refute it at one input. -/
def stuffTellsWrong : ChangeSpec := { name := "stuffTells", fn := fun _ => fun
  | [d] => { results := [.lit (.bool false)], args := [d] }
  | _ => none }
def StuffTellsWrongFalsely : Prop := stuffTellsRow.holds Try.pinned (OpenSpec.ofChange stuffTellsWrong)

/-- 'quipulaw.PhraseParses': WHATEVER THE INPUT: true; the input reads as it did. -/
def phraseParsesSpec : ChangeSpec := { name := "phraseParses", fn := fun _ => fun
  | [d] => { results := [.lit (.bool true)], args := [d] }
  | _ => none }
def phraseParsesRow : OpenClaim := { program := "ytlpahkejimkjkaa", sum := "f25e9eded8c27b0780637df5caef59f6a0d2e11aef499d45904c0007800d73a3", func := "quipu/quipulaw.PhraseParses", spec := "phraseParses", plainKeys := false, apart := false }
def PhraseParsesSaid : Prop := phraseParsesRow.holds Try.pinned (OpenSpec.ofChange phraseParsesSpec)

/-- ITS FALSE NEIGHBOUR: 'it returns false'. Refute it at one input. -/
def phraseParsesWrong : ChangeSpec := { name := "phraseParses", fn := fun _ => fun
  | [d] => { results := [.lit (.bool false)], args := [d] }
  | _ => none }
def PhraseParsesWrongFalsely : Prop := phraseParsesRow.holds Try.pinned (OpenSpec.ofChange phraseParsesWrong)

/-- 'quipulaw.PhraseJoins': WHATEVER THE INPUT: true; the input reads as it did. -/
def phraseJoinsSpec : ChangeSpec := { name := "phraseJoins", fn := fun _ => fun
  | [d] => { results := [.lit (.bool true)], args := [d] }
  | _ => none }
def phraseJoinsRow : OpenClaim := { program := "ytlpahkejimkjkaa", sum := "f25e9eded8c27b0780637df5caef59f6a0d2e11aef499d45904c0007800d73a3", func := "quipu/quipulaw.PhraseJoins", spec := "phraseJoins", plainKeys := false, apart := false }
def PhraseJoinsSaid : Prop := phraseJoinsRow.holds Try.pinned (OpenSpec.ofChange phraseJoinsSpec)

/-- ITS FALSE NEIGHBOUR: 'it returns false'. Refute it at one input. -/
def phraseJoinsWrong : ChangeSpec := { name := "phraseJoins", fn := fun _ => fun
  | [d] => { results := [.lit (.bool false)], args := [d] }
  | _ => none }
def PhraseJoinsWrongFalsely : Prop := phraseJoinsRow.holds Try.pinned (OpenSpec.ofChange phraseJoinsWrong)

/-- 'quipulaw.TurnUnfronts': WHATEVER THE INPUT: true; the input reads as it did. -/
def turnUnfrontsSpec : ChangeSpec := { name := "turnUnfronts", fn := fun _ => fun
  | [d] => { results := [.lit (.bool true)], args := [d] }
  | _ => none }
def turnUnfrontsRow : OpenClaim := { program := "ytlpahkejimkjkaa", sum := "f25e9eded8c27b0780637df5caef59f6a0d2e11aef499d45904c0007800d73a3", func := "quipu/quipulaw.TurnUnfronts", spec := "turnUnfronts", plainKeys := false, apart := false }
def TurnUnfrontsSaid : Prop := turnUnfrontsRow.holds Try.pinned (OpenSpec.ofChange turnUnfrontsSpec)

/-- ITS FALSE NEIGHBOUR: 'it returns false'. Refute it at one input. -/
def turnUnfrontsWrong : ChangeSpec := { name := "turnUnfronts", fn := fun _ => fun
  | [d] => { results := [.lit (.bool false)], args := [d] }
  | _ => none }
def TurnUnfrontsWrongFalsely : Prop := turnUnfrontsRow.holds Try.pinned (OpenSpec.ofChange turnUnfrontsWrong)

/- THE SECOND FORM. 'bulk': how many values and letters a reading holds, each counted each time it is reached (what is shared counts as often as it is met; a slice's spare places count too). A statement '..UptoSaid' is the law's where the arguments, and the package variables that the reading takes, are together of bulk at most 1048576: NARROWER than '..Said'. Prove '..Said' where nothing that the law and all that it calls make is longer than what came in: it says more and counts as full. Else prove '..UptoSaid'. A law counts once. -/
mutual
def uptoBulk {H : Type} : DataW H → Nat
  | .lit (.string bytes) => bytes.length + 1
  | .lit _ => 1
  | .nil => 1
  | .ptr d => uptoBulk d + 1
  | .slice elems spare => uptoBulkAll elems + uptoBulkAll spare + 1
  | .agg parts => uptoBulkAll parts + 1
  | .iface _ d => uptoBulk d + 1
  | .map entries => uptoBulkEntries entries + 1
  | .held _ => 1
def uptoBulkAll {H : Type} : List (DataW H) → Nat
  | [] => 0
  | d :: r => uptoBulk d + uptoBulkAll r
def uptoBulkEntries {H : Type} : List (Lit × DataW H) → Nat
  | [] => 0
  | x :: r => uptoBulkEntry x + uptoBulkEntries r
def uptoBulkEntry {H : Type} : Lit × DataW H → Nat
  | (.string bytes, d) => bytes.length + uptoBulk d + 1
  | (_, d) => uptoBulk d + 1
 end
def uptoSmall : (H : Type) → List (DataW H) → Bool := fun _ ds => decide (uptoBulkAll ds ≤ 1048576)
def OpenSpec.upto (s : _root_.Go.ChangeSpec) : _root_.Go.OpenSpec := { _root_.Go.OpenSpec.ofChange s with cond := some uptoSmall }

/-- 'quipulaw.KraftSums', WHERE WHAT IT READS IS OF BULK AT MOST 1048576: true; the input reads as it did. -/
def kraftSumsUptoRow : OpenClaim := { program := "ytlpahkejimkjkaa", sum := "f25e9eded8c27b0780637df5caef59f6a0d2e11aef499d45904c0007800d73a3", func := "quipu/quipulaw.KraftSums", spec := "kraftSums", plainKeys := false, apart := false, narrowed := true }
def KraftSumsUptoSaid : Prop := kraftSumsUptoRow.holds Try.pinned (OpenSpec.upto kraftSumsSpec)

/-- 'quipulaw.DropSums', WHERE WHAT IT READS IS OF BULK AT MOST 1048576: true; the input reads as it did. -/
def dropSumsUptoRow : OpenClaim := { program := "ytlpahkejimkjkaa", sum := "f25e9eded8c27b0780637df5caef59f6a0d2e11aef499d45904c0007800d73a3", func := "quipu/quipulaw.DropSums", spec := "dropSums", plainKeys := false, apart := false, narrowed := true }
def DropSumsUptoSaid : Prop := dropSumsUptoRow.holds Try.pinned (OpenSpec.upto dropSumsSpec)

/-- 'quipulaw.PrefixChecks', WHERE WHAT IT READS IS OF BULK AT MOST 1048576: true; the input reads as it did. -/
def prefixChecksUptoRow : OpenClaim := { program := "ytlpahkejimkjkaa", sum := "f25e9eded8c27b0780637df5caef59f6a0d2e11aef499d45904c0007800d73a3", func := "quipu/quipulaw.PrefixChecks", spec := "prefixChecks", unfollowed := true, recurses := true, plainKeys := false, apart := false, narrowed := true }
def PrefixChecksUptoSaid : Prop := prefixChecksUptoRow.holds Try.pinned (OpenSpec.upto prefixChecksSpec)

/-- 'quipulaw.GrayCodes', WHERE WHAT IT READS IS OF BULK AT MOST 1048576: true; the input reads as it did. -/
def grayCodesUptoRow : OpenClaim := { program := "ytlpahkejimkjkaa", sum := "f25e9eded8c27b0780637df5caef59f6a0d2e11aef499d45904c0007800d73a3", func := "quipu/quipulaw.GrayCodes", spec := "grayCodes", plainKeys := false, apart := false, narrowed := true }
def GrayCodesUptoSaid : Prop := grayCodesUptoRow.holds Try.pinned (OpenSpec.upto grayCodesSpec)

/-- 'quipulaw.RankManies', WHERE WHAT IT READS IS OF BULK AT MOST 1048576: true; the input reads as it did. -/
def rankManiesUptoRow : OpenClaim := { program := "ytlpahkejimkjkaa", sum := "f25e9eded8c27b0780637df5caef59f6a0d2e11aef499d45904c0007800d73a3", func := "quipu/quipulaw.RankManies", spec := "rankManies", plainKeys := false, apart := false, narrowed := true }
def RankManiesUptoSaid : Prop := rankManiesUptoRow.holds Try.pinned (OpenSpec.upto rankManiesSpec)

/-- 'quipulaw.StripePlaces', WHERE WHAT IT READS IS OF BULK AT MOST 1048576: true; the input reads as it did. -/
def stripePlacesUptoRow : OpenClaim := { program := "ytlpahkejimkjkaa", sum := "f25e9eded8c27b0780637df5caef59f6a0d2e11aef499d45904c0007800d73a3", func := "quipu/quipulaw.StripePlaces", spec := "stripePlaces", plainKeys := false, apart := false, narrowed := true }
def StripePlacesUptoSaid : Prop := stripePlacesUptoRow.holds Try.pinned (OpenSpec.upto stripePlacesSpec)

/-- 'quipulaw.BallDists', WHERE WHAT IT READS IS OF BULK AT MOST 1048576: true; the input reads as it did. -/
def ballDistsUptoRow : OpenClaim := { program := "ytlpahkejimkjkaa", sum := "f25e9eded8c27b0780637df5caef59f6a0d2e11aef499d45904c0007800d73a3", func := "quipu/quipulaw.BallDists", spec := "ballDists", plainKeys := false, apart := false, narrowed := true }
def BallDistsUptoSaid : Prop := ballDistsUptoRow.holds Try.pinned (OpenSpec.upto ballDistsSpec)

/-- 'quipulaw.GrayPlaces', WHERE WHAT IT READS IS OF BULK AT MOST 1048576: true; the input reads as it did. -/
def grayPlacesUptoRow : OpenClaim := { program := "ytlpahkejimkjkaa", sum := "f25e9eded8c27b0780637df5caef59f6a0d2e11aef499d45904c0007800d73a3", func := "quipu/quipulaw.GrayPlaces", spec := "grayPlaces", plainKeys := false, apart := false, narrowed := true }
def GrayPlacesUptoSaid : Prop := grayPlacesUptoRow.holds Try.pinned (OpenSpec.upto grayPlacesSpec)

/-- 'quipulaw.StuffTells', WHERE WHAT IT READS IS OF BULK AT MOST 1048576: true; the input reads as it did. -/
def stuffTellsUptoRow : OpenClaim := { program := "ytlpahkejimkjkaa", sum := "f25e9eded8c27b0780637df5caef59f6a0d2e11aef499d45904c0007800d73a3", func := "quipu/quipulaw.StuffTells", spec := "stuffTells", plainKeys := false, apart := false, narrowed := true }
def StuffTellsUptoSaid : Prop := stuffTellsUptoRow.holds Try.pinned (OpenSpec.upto stuffTellsSpec)

/-- 'quipulaw.PhraseParses', WHERE WHAT IT READS IS OF BULK AT MOST 1048576: true; the input reads as it did. -/
def phraseParsesUptoRow : OpenClaim := { program := "ytlpahkejimkjkaa", sum := "f25e9eded8c27b0780637df5caef59f6a0d2e11aef499d45904c0007800d73a3", func := "quipu/quipulaw.PhraseParses", spec := "phraseParses", plainKeys := false, apart := false, narrowed := true }
def PhraseParsesUptoSaid : Prop := phraseParsesUptoRow.holds Try.pinned (OpenSpec.upto phraseParsesSpec)

/-- 'quipulaw.PhraseJoins', WHERE WHAT IT READS IS OF BULK AT MOST 1048576: true; the input reads as it did. -/
def phraseJoinsUptoRow : OpenClaim := { program := "ytlpahkejimkjkaa", sum := "f25e9eded8c27b0780637df5caef59f6a0d2e11aef499d45904c0007800d73a3", func := "quipu/quipulaw.PhraseJoins", spec := "phraseJoins", plainKeys := false, apart := false, narrowed := true }
def PhraseJoinsUptoSaid : Prop := phraseJoinsUptoRow.holds Try.pinned (OpenSpec.upto phraseJoinsSpec)

/-- 'quipulaw.TurnUnfronts', WHERE WHAT IT READS IS OF BULK AT MOST 1048576: true; the input reads as it did. -/
def turnUnfrontsUptoRow : OpenClaim := { program := "ytlpahkejimkjkaa", sum := "f25e9eded8c27b0780637df5caef59f6a0d2e11aef499d45904c0007800d73a3", func := "quipu/quipulaw.TurnUnfronts", spec := "turnUnfronts", plainKeys := false, apart := false, narrowed := true }
def TurnUnfrontsUptoSaid : Prop := turnUnfrontsUptoRow.holds Try.pinned (OpenSpec.upto turnUnfrontsSpec)

end Rows
end Go.Proofs.Ytlpahkejimkjkaa

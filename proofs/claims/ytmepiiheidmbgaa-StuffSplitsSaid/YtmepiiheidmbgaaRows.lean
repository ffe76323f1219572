/-
  No cell of these rows narrows 'for every input' (looked for: loops, veiled, ifaces, maps, wideKeys, modest, calm, conditions, laid).
  DERIVED. THE GIVEN ROWS OF THIS SEAT. 12 by the template 'for every input the law returns true; each argument reads behind the call as it read before'; 0 by the template 'total and deterministic' (their statements: YtmepiiheidmbgaaTotals.lean).
  GIVEN WITH THE SEED: the statements are not yours to turn. If you find one false, say at which input.
  Laid BY PROGRAM, IN A SANDBOX (cutbox-rows.mjs): the forced cells as the released guide's own fill.sh prints them over the translation ebe17c727998a52f… (all of the seat's roots in one cut). By AI agents, Wed Nov 11 2026. No macro, syntax, notation, axiom, sorry.
-/
import Derived.Test.YtmepiiheidmbgaaChecked
import GoSem.Claim
import GoSem.ClaimJoined
import GoSem.ClaimMapViews
import Derived.JoinedTies
import Derived.KernelRfl
namespace Go.Proofs.Ytmepiiheidmbgaa
/- THE CELL 'sum', in the pinned program and in every row, IS THE sha256 OF THE DUMP (.gsa) THAT YtmepiiheidmbgaaProg.lean LOADS. Nothing in Lean hashes anything: it is a label: what it is worth is what the hold of that sum in a sandbox is worth. -/
noncomputable def Try.pinned : Pinned := { name := "ytmepiiheidmbgaa", sum := "ebe17c727998a52fc1ea23a77ad813e7a34efa0b96c9cb8eab4c1d83bb7aa689", checked := Try.checked }
namespace Rows
def none {H : Type} : Left H := { results := [], args := [] }

/-- 'quipulaw.StuffFrames': WHATEVER THE INPUT: true; the input reads as it did. -/
def stuffFramesSpec : ChangeSpec := { name := "stuffFrames", fn := fun _ => fun
  | [d] => { results := [.lit (.bool true)], args := [d] }
  | _ => none }
def stuffFramesRow : OpenClaim := { program := "ytmepiiheidmbgaa", sum := "ebe17c727998a52fc1ea23a77ad813e7a34efa0b96c9cb8eab4c1d83bb7aa689", func := "quipu/quipulaw.StuffFrames", spec := "stuffFrames", unfollowed := true, recurses := true, plainKeys := false, apart := false }
def StuffFramesSaid : Prop := stuffFramesRow.holds Try.pinned (OpenSpec.ofChange stuffFramesSpec)

/-- ITS FALSE NEIGHBOUR: 'it returns false'. Refute it at one input. -/
def stuffFramesWrong : ChangeSpec := { name := "stuffFrames", fn := fun _ => fun
  | [d] => { results := [.lit (.bool false)], args := [d] }
  | _ => none }
def StuffFramesWrongFalsely : Prop := stuffFramesRow.holds Try.pinned (OpenSpec.ofChange stuffFramesWrong)

/-- 'quipulaw.StuffSplits': WHATEVER THE INPUT: true; the input reads as it did. -/
def stuffSplitsSpec : ChangeSpec := { name := "stuffSplits", fn := fun _ => fun
  | [d] => { results := [.lit (.bool true)], args := [d] }
  | _ => none }
def stuffSplitsRow : OpenClaim := { program := "ytmepiiheidmbgaa", sum := "ebe17c727998a52fc1ea23a77ad813e7a34efa0b96c9cb8eab4c1d83bb7aa689", func := "quipu/quipulaw.StuffSplits", spec := "stuffSplits", plainKeys := false, apart := false }
def StuffSplitsSaid : Prop := stuffSplitsRow.holds Try.pinned (OpenSpec.ofChange stuffSplitsSpec)

/-- ITS FALSE NEIGHBOUR: 'it returns false'. Refute it at one input. -/
def stuffSplitsWrong : ChangeSpec := { name := "stuffSplits", fn := fun _ => fun
  | [d] => { results := [.lit (.bool false)], args := [d] }
  | _ => none }
def StuffSplitsWrongFalsely : Prop := stuffSplitsRow.holds Try.pinned (OpenSpec.ofChange stuffSplitsWrong)

/-- 'quipulaw.GrayRounds': WHATEVER THE INPUT: true; the input reads as it did. -/
def grayRoundsSpec : ChangeSpec := { name := "grayRounds", fn := fun _ => fun
  | [d] => { results := [.lit (.bool true)], args := [d] }
  | _ => none }
def grayRoundsRow : OpenClaim := { program := "ytmepiiheidmbgaa", sum := "ebe17c727998a52fc1ea23a77ad813e7a34efa0b96c9cb8eab4c1d83bb7aa689", func := "quipu/quipulaw.GrayRounds", spec := "grayRounds", plainKeys := false, apart := false }
def GrayRoundsSaid : Prop := grayRoundsRow.holds Try.pinned (OpenSpec.ofChange grayRoundsSpec)

/-- ITS FALSE NEIGHBOUR: 'it returns false'. Refute it at one input. -/
def grayRoundsWrong : ChangeSpec := { name := "grayRounds", fn := fun _ => fun
  | [d] => { results := [.lit (.bool false)], args := [d] }
  | _ => none }
def GrayRoundsWrongFalsely : Prop := grayRoundsRow.holds Try.pinned (OpenSpec.ofChange grayRoundsWrong)

/-- 'quipulaw.PhraseParses': WHATEVER THE INPUT: true; the input reads as it did. -/
def phraseParsesSpec : ChangeSpec := { name := "phraseParses", fn := fun _ => fun
  | [d] => { results := [.lit (.bool true)], args := [d] }
  | _ => none }
def phraseParsesRow : OpenClaim := { program := "ytmepiiheidmbgaa", sum := "ebe17c727998a52fc1ea23a77ad813e7a34efa0b96c9cb8eab4c1d83bb7aa689", func := "quipu/quipulaw.PhraseParses", spec := "phraseParses", plainKeys := false, apart := false }
def PhraseParsesSaid : Prop := phraseParsesRow.holds Try.pinned (OpenSpec.ofChange phraseParsesSpec)

/-- ITS FALSE NEIGHBOUR: 'it returns false'. Refute it at one input. -/
def phraseParsesWrong : ChangeSpec := { name := "phraseParses", fn := fun _ => fun
  | [d] => { results := [.lit (.bool false)], args := [d] }
  | _ => none }
def PhraseParsesWrongFalsely : Prop := phraseParsesRow.holds Try.pinned (OpenSpec.ofChange phraseParsesWrong)

/-- 'quipulaw.PhraseJoins': WHATEVER THE INPUT: true; the input reads as it did. -/
def phraseJoinsSpec : ChangeSpec := { name := "phraseJoins", fn := fun _ => fun
  | [d] => { results := [.lit (.bool true)], args := [d] }
  | _ => none }
def phraseJoinsRow : OpenClaim := { program := "ytmepiiheidmbgaa", sum := "ebe17c727998a52fc1ea23a77ad813e7a34efa0b96c9cb8eab4c1d83bb7aa689", func := "quipu/quipulaw.PhraseJoins", spec := "phraseJoins", plainKeys := false, apart := false }
def PhraseJoinsSaid : Prop := phraseJoinsRow.holds Try.pinned (OpenSpec.ofChange phraseJoinsSpec)

/-- ITS FALSE NEIGHBOUR: 'it returns false'. Refute it at one input. -/
def phraseJoinsWrong : ChangeSpec := { name := "phraseJoins", fn := fun _ => fun
  | [d] => { results := [.lit (.bool false)], args := [d] }
  | _ => none }
def PhraseJoinsWrongFalsely : Prop := phraseJoinsRow.holds Try.pinned (OpenSpec.ofChange phraseJoinsWrong)

/-- 'quipulaw.TurnUnfronts': WHATEVER THE INPUT: true; the input reads as it did. -/
def turnUnfrontsSpec : ChangeSpec := { name := "turnUnfronts", fn := fun _ => fun
  | [d] => { results := [.lit (.bool true)], args := [d] }
  | _ => none }
def turnUnfrontsRow : OpenClaim := { program := "ytmepiiheidmbgaa", sum := "ebe17c727998a52fc1ea23a77ad813e7a34efa0b96c9cb8eab4c1d83bb7aa689", func := "quipu/quipulaw.TurnUnfronts", spec := "turnUnfronts", plainKeys := false, apart := false }
def TurnUnfrontsSaid : Prop := turnUnfrontsRow.holds Try.pinned (OpenSpec.ofChange turnUnfrontsSpec)

/-- ITS FALSE NEIGHBOUR: 'it returns false'. Refute it at one input. -/
def turnUnfrontsWrong : ChangeSpec := { name := "turnUnfronts", fn := fun _ => fun
  | [d] => { results := [.lit (.bool false)], args := [d] }
  | _ => none }
def TurnUnfrontsWrongFalsely : Prop := turnUnfrontsRow.holds Try.pinned (OpenSpec.ofChange turnUnfrontsWrong)

/-- 'quipulaw.TurnFronts': WHATEVER THE INPUT: true; the input reads as it did. -/
def turnFrontsSpec : ChangeSpec := { name := "turnFronts", fn := fun _ => fun
  | [d] => { results := [.lit (.bool true)], args := [d] }
  | _ => none }
def turnFrontsRow : OpenClaim := { program := "ytmepiiheidmbgaa", sum := "ebe17c727998a52fc1ea23a77ad813e7a34efa0b96c9cb8eab4c1d83bb7aa689", func := "quipu/quipulaw.TurnFronts", spec := "turnFronts", inPlace := ["internal/bytealg.IndexByte"], plainKeys := false, apart := false }
def TurnFrontsSaid : Prop := turnFrontsRow.holds Try.pinned (OpenSpec.ofChange turnFrontsSpec)

/-- ITS FALSE NEIGHBOUR: 'it returns false'. Refute it at one input. -/
def turnFrontsWrong : ChangeSpec := { name := "turnFronts", fn := fun _ => fun
  | [d] => { results := [.lit (.bool false)], args := [d] }
  | _ => none }
def TurnFrontsWrongFalsely : Prop := turnFrontsRow.holds Try.pinned (OpenSpec.ofChange turnFrontsWrong)

/-- 'quipulaw.RankOrders': WHATEVER THE INPUT: true; the input reads as it did. -/
def rankOrdersSpec : ChangeSpec := { name := "rankOrders", fn := fun _ => fun
  | [d] => { results := [.lit (.bool true)], args := [d] }
  | _ => none }
def rankOrdersRow : OpenClaim := { program := "ytmepiiheidmbgaa", sum := "ebe17c727998a52fc1ea23a77ad813e7a34efa0b96c9cb8eab4c1d83bb7aa689", func := "quipu/quipulaw.RankOrders", spec := "rankOrders", plainKeys := false, apart := false }
def RankOrdersSaid : Prop := rankOrdersRow.holds Try.pinned (OpenSpec.ofChange rankOrdersSpec)

/-- ITS FALSE NEIGHBOUR: 'it returns false'. Refute it at one input. -/
def rankOrdersWrong : ChangeSpec := { name := "rankOrders", fn := fun _ => fun
  | [d] => { results := [.lit (.bool false)], args := [d] }
  | _ => none }
def RankOrdersWrongFalsely : Prop := rankOrdersRow.holds Try.pinned (OpenSpec.ofChange rankOrdersWrong)

/-- 'quipulaw.RankLists': WHATEVER THE INPUT: true; the input reads as it did. -/
def rankListsSpec : ChangeSpec := { name := "rankLists", fn := fun _ => fun
  | [d1, d2] => { results := [.lit (.bool true)], args := [d1, d2] }
  | _ => none }
def rankListsRow : OpenClaim := { program := "ytmepiiheidmbgaa", sum := "ebe17c727998a52fc1ea23a77ad813e7a34efa0b96c9cb8eab4c1d83bb7aa689", func := "quipu/quipulaw.RankLists", spec := "rankLists", plainKeys := false, apart := false }
def RankListsSaid : Prop := rankListsRow.holds Try.pinned (OpenSpec.ofChange rankListsSpec)

/-- ITS FALSE NEIGHBOUR: 'it returns false'. Refute it at one input. -/
def rankListsWrong : ChangeSpec := { name := "rankLists", fn := fun _ => fun
  | [d1, d2] => { results := [.lit (.bool false)], args := [d1, d2] }
  | _ => none }
def RankListsWrongFalsely : Prop := rankListsRow.holds Try.pinned (OpenSpec.ofChange rankListsWrong)

/-- 'quipulaw.KraftMakes': WHATEVER THE INPUT: true; the input reads as it did. -/
def kraftMakesSpec : ChangeSpec := { name := "kraftMakes", fn := fun _ => fun
  | [d] => { results := [.lit (.bool true)], args := [d] }
  | _ => none }
def kraftMakesRow : OpenClaim := { program := "ytmepiiheidmbgaa", sum := "ebe17c727998a52fc1ea23a77ad813e7a34efa0b96c9cb8eab4c1d83bb7aa689", func := "quipu/quipulaw.KraftMakes", spec := "kraftMakes", unfollowed := true, recurses := true, plainKeys := false, apart := false }
def KraftMakesSaid : Prop := kraftMakesRow.holds Try.pinned (OpenSpec.ofChange kraftMakesSpec)

/-- ITS FALSE NEIGHBOUR: 'it returns false'. Refute it at one input. -/
def kraftMakesWrong : ChangeSpec := { name := "kraftMakes", fn := fun _ => fun
  | [d] => { results := [.lit (.bool false)], args := [d] }
  | _ => none }
def KraftMakesWrongFalsely : Prop := kraftMakesRow.holds Try.pinned (OpenSpec.ofChange kraftMakesWrong)

/-- 'quipulaw.SpanTells': WHATEVER THE INPUT: true; the input reads as it did. -/
def spanTellsSpec : ChangeSpec := { name := "spanTells", fn := fun _ => fun
  | [d1, d2] => { results := [.lit (.bool true)], args := [d1, d2] }
  | _ => none }
def spanTellsRow : OpenClaim := { program := "ytmepiiheidmbgaa", sum := "ebe17c727998a52fc1ea23a77ad813e7a34efa0b96c9cb8eab4c1d83bb7aa689", func := "quipu/quipulaw.SpanTells", spec := "spanTells", recurses := true, plainKeys := false, apart := false }
def SpanTellsSaid : Prop := spanTellsRow.holds Try.pinned (OpenSpec.ofChange spanTellsSpec)

/-- ITS FALSE NEIGHBOUR: 'it returns false'. Refute it at one input. -/
def spanTellsWrong : ChangeSpec := { name := "spanTells", fn := fun _ => fun
  | [d1, d2] => { results := [.lit (.bool false)], args := [d1, d2] }
  | _ => none }
def SpanTellsWrongFalsely : Prop := spanTellsRow.holds Try.pinned (OpenSpec.ofChange spanTellsWrong)

/-- 'quipulaw.SpanSizes': WHATEVER THE INPUT: true; the input reads as it did. -/
def spanSizesSpec : ChangeSpec := { name := "spanSizes", fn := fun _ => fun
  | [d1, d2] => { results := [.lit (.bool true)], args := [d1, d2] }
  | _ => none }
def spanSizesRow : OpenClaim := { program := "ytmepiiheidmbgaa", sum := "ebe17c727998a52fc1ea23a77ad813e7a34efa0b96c9cb8eab4c1d83bb7aa689", func := "quipu/quipulaw.SpanSizes", spec := "spanSizes", recurses := true, plainKeys := false, apart := false }
def SpanSizesSaid : Prop := spanSizesRow.holds Try.pinned (OpenSpec.ofChange spanSizesSpec)

/-- ITS FALSE NEIGHBOUR: 'it returns false'. Refute it at one input. -/
def spanSizesWrong : ChangeSpec := { name := "spanSizes", fn := fun _ => fun
  | [d1, d2] => { results := [.lit (.bool false)], args := [d1, d2] }
  | _ => none }
def SpanSizesWrongFalsely : Prop := spanSizesRow.holds Try.pinned (OpenSpec.ofChange spanSizesWrong)

/- THE SECOND FORM. 'bulk': how many values and letters a reading holds, each counted each time it is reached (what is shared counts as often as it is met; a slice's spare places count too). A statement '..UptoSaid' is the law's where the arguments, and the package variables that the reading takes, are together of bulk at most 1048576: NARROWER than '..Said'. Prove '..Said' where nothing that the law and all that it calls make is longer than what came in: it says more and counts as full. Else prove '..UptoSaid'. A law counts once. -/
mutual
def uptoBulk {H : Type} : DataW H → Nat
  | .lit (.string bytes) => bytes.length + 1
  | .lit _ => 1
  | .nil => 1
  | .ptr d => uptoBulk d + 1
  | .slice elems spare => uptoBulkAll elems + uptoBulkAll spare + 1
  | .agg parts => uptoBulkAll parts + 1
  | .iface _ d => uptoBulk d + 1
  | .map entries => uptoBulkEntries entries + 1
  | .held _ => 1
def uptoBulkAll {H : Type} : List (DataW H) → Nat
  | [] => 0
  | d :: r => uptoBulk d + uptoBulkAll r
def uptoBulkEntries {H : Type} : List (Lit × DataW H) → Nat
  | [] => 0
  | x :: r => uptoBulkEntry x + uptoBulkEntries r
def uptoBulkEntry {H : Type} : Lit × DataW H → Nat
  | (.string bytes, d) => bytes.length + uptoBulk d + 1
  | (_, d) => uptoBulk d + 1
 end
def uptoSmall : (H : Type) → List (DataW H) → Bool := fun _ ds => decide (uptoBulkAll ds ≤ 1048576)
def OpenSpec.upto (s : _root_.Go.ChangeSpec) : _root_.Go.OpenSpec := { _root_.Go.OpenSpec.ofChange s with cond := some uptoSmall }

/-- 'quipulaw.StuffFrames', WHERE WHAT IT READS IS OF BULK AT MOST 1048576: true; the input reads as it did. -/
def stuffFramesUptoRow : OpenClaim := { program := "ytmepiiheidmbgaa", sum := "ebe17c727998a52fc1ea23a77ad813e7a34efa0b96c9cb8eab4c1d83bb7aa689", func := "quipu/quipulaw.StuffFrames", spec := "stuffFrames", unfollowed := true, recurses := true, plainKeys := false, apart := false, narrowed := true }
def StuffFramesUptoSaid : Prop := stuffFramesUptoRow.holds Try.pinned (OpenSpec.upto stuffFramesSpec)

/-- 'quipulaw.StuffSplits', WHERE WHAT IT READS IS OF BULK AT MOST 1048576: true; the input reads as it did. -/
def stuffSplitsUptoRow : OpenClaim := { program := "ytmepiiheidmbgaa", sum := "ebe17c727998a52fc1ea23a77ad813e7a34efa0b96c9cb8eab4c1d83bb7aa689", func := "quipu/quipulaw.StuffSplits", spec := "stuffSplits", plainKeys := false, apart := false, narrowed := true }
def StuffSplitsUptoSaid : Prop := stuffSplitsUptoRow.holds Try.pinned (OpenSpec.upto stuffSplitsSpec)

/-- 'quipulaw.GrayRounds', WHERE WHAT IT READS IS OF BULK AT MOST 1048576: true; the input reads as it did. -/
def grayRoundsUptoRow : OpenClaim := { program := "ytmepiiheidmbgaa", sum := "ebe17c727998a52fc1ea23a77ad813e7a34efa0b96c9cb8eab4c1d83bb7aa689", func := "quipu/quipulaw.GrayRounds", spec := "grayRounds", plainKeys := false, apart := false, narrowed := true }
def GrayRoundsUptoSaid : Prop := grayRoundsUptoRow.holds Try.pinned (OpenSpec.upto grayRoundsSpec)

/-- 'quipulaw.PhraseParses', WHERE WHAT IT READS IS OF BULK AT MOST 1048576: true; the input reads as it did. -/
def phraseParsesUptoRow : OpenClaim := { program := "ytmepiiheidmbgaa", sum := "ebe17c727998a52fc1ea23a77ad813e7a34efa0b96c9cb8eab4c1d83bb7aa689", func := "quipu/quipulaw.PhraseParses", spec := "phraseParses", plainKeys := false, apart := false, narrowed := true }
def PhraseParsesUptoSaid : Prop := phraseParsesUptoRow.holds Try.pinned (OpenSpec.upto phraseParsesSpec)

/-- 'quipulaw.PhraseJoins', WHERE WHAT IT READS IS OF BULK AT MOST 1048576: true; the input reads as it did. -/
def phraseJoinsUptoRow : OpenClaim := { program := "ytmepiiheidmbgaa", sum := "ebe17c727998a52fc1ea23a77ad813e7a34efa0b96c9cb8eab4c1d83bb7aa689", func := "quipu/quipulaw.PhraseJoins", spec := "phraseJoins", plainKeys := false, apart := false, narrowed := true }
def PhraseJoinsUptoSaid : Prop := phraseJoinsUptoRow.holds Try.pinned (OpenSpec.upto phraseJoinsSpec)

/-- 'quipulaw.TurnUnfronts', WHERE WHAT IT READS IS OF BULK AT MOST 1048576: true; the input reads as it did. -/
def turnUnfrontsUptoRow : OpenClaim := { program := "ytmepiiheidmbgaa", sum := "ebe17c727998a52fc1ea23a77ad813e7a34efa0b96c9cb8eab4c1d83bb7aa689", func := "quipu/quipulaw.TurnUnfronts", spec := "turnUnfronts", plainKeys := false, apart := false, narrowed := true }
def TurnUnfrontsUptoSaid : Prop := turnUnfrontsUptoRow.holds Try.pinned (OpenSpec.upto turnUnfrontsSpec)

/-- 'quipulaw.TurnFronts', WHERE WHAT IT READS IS OF BULK AT MOST 1048576: true; the input reads as it did. -/
def turnFrontsUptoRow : OpenClaim := { program := "ytmepiiheidmbgaa", sum := "ebe17c727998a52fc1ea23a77ad813e7a34efa0b96c9cb8eab4c1d83bb7aa689", func := "quipu/quipulaw.TurnFronts", spec := "turnFronts", inPlace := ["internal/bytealg.IndexByte"], plainKeys := false, apart := false, narrowed := true }
def TurnFrontsUptoSaid : Prop := turnFrontsUptoRow.holds Try.pinned (OpenSpec.upto turnFrontsSpec)

/-- 'quipulaw.RankOrders', WHERE WHAT IT READS IS OF BULK AT MOST 1048576: true; the input reads as it did. -/
def rankOrdersUptoRow : OpenClaim := { program := "ytmepiiheidmbgaa", sum := "ebe17c727998a52fc1ea23a77ad813e7a34efa0b96c9cb8eab4c1d83bb7aa689", func := "quipu/quipulaw.RankOrders", spec := "rankOrders", plainKeys := false, apart := false, narrowed := true }
def RankOrdersUptoSaid : Prop := rankOrdersUptoRow.holds Try.pinned (OpenSpec.upto rankOrdersSpec)

/-- 'quipulaw.RankLists', WHERE WHAT IT READS IS OF BULK AT MOST 1048576: true; the input reads as it did. -/
def rankListsUptoRow : OpenClaim := { program := "ytmepiiheidmbgaa", sum := "ebe17c727998a52fc1ea23a77ad813e7a34efa0b96c9cb8eab4c1d83bb7aa689", func := "quipu/quipulaw.RankLists", spec := "rankLists", plainKeys := false, apart := false, narrowed := true }
def RankListsUptoSaid : Prop := rankListsUptoRow.holds Try.pinned (OpenSpec.upto rankListsSpec)

/-- 'quipulaw.KraftMakes', WHERE WHAT IT READS IS OF BULK AT MOST 1048576: true; the input reads as it did. -/
def kraftMakesUptoRow : OpenClaim := { program := "ytmepiiheidmbgaa", sum := "ebe17c727998a52fc1ea23a77ad813e7a34efa0b96c9cb8eab4c1d83bb7aa689", func := "quipu/quipulaw.KraftMakes", spec := "kraftMakes", unfollowed := true, recurses := true, plainKeys := false, apart := false, narrowed := true }
def KraftMakesUptoSaid : Prop := kraftMakesUptoRow.holds Try.pinned (OpenSpec.upto kraftMakesSpec)

/-- 'quipulaw.SpanTells', WHERE WHAT IT READS IS OF BULK AT MOST 1048576: true; the input reads as it did. -/
def spanTellsUptoRow : OpenClaim := { program := "ytmepiiheidmbgaa", sum := "ebe17c727998a52fc1ea23a77ad813e7a34efa0b96c9cb8eab4c1d83bb7aa689", func := "quipu/quipulaw.SpanTells", spec := "spanTells", recurses := true, plainKeys := false, apart := false, narrowed := true }
def SpanTellsUptoSaid : Prop := spanTellsUptoRow.holds Try.pinned (OpenSpec.upto spanTellsSpec)

/-- 'quipulaw.SpanSizes', WHERE WHAT IT READS IS OF BULK AT MOST 1048576: true; the input reads as it did. -/
def spanSizesUptoRow : OpenClaim := { program := "ytmepiiheidmbgaa", sum := "ebe17c727998a52fc1ea23a77ad813e7a34efa0b96c9cb8eab4c1d83bb7aa689", func := "quipu/quipulaw.SpanSizes", spec := "spanSizes", recurses := true, plainKeys := false, apart := false, narrowed := true }
def SpanSizesUptoSaid : Prop := spanSizesUptoRow.holds Try.pinned (OpenSpec.upto spanSizesSpec)

end Rows
end Go.Proofs.Ytmepiiheidmbgaa

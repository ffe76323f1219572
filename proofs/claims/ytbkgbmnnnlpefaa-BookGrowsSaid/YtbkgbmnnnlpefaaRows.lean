/-
  No cell of these rows narrows 'for every input' (looked for: loops, veiled, ifaces, maps, wideKeys, modest, calm, conditions, laid).
  DERIVED. THE GIVEN ROWS OF THIS SEAT. 12 by the template 'for every input the law returns true; each argument reads behind the call as it read before'; 0 by the template 'total and deterministic' (their statements: YtbkgbmnnnlpefaaTotals.lean).
  GIVEN WITH THE SEED: the statements are not yours to turn. If you find one false, say at which input.
  Laid BY PROGRAM, IN A SANDBOX (cutbox-rows.mjs): the forced cells as the released guide's own fill.sh prints them over the translation 46ed92a64e455bc3… (all of the seat's roots in one cut). By AI agents, Wed Nov 11 2026. No macro, syntax, notation, axiom, sorry.
-/
import Derived.Test.YtbkgbmnnnlpefaaChecked
import GoSem.Claim
import GoSem.ClaimJoined
import GoSem.ClaimMapViews
import Derived.JoinedTies
import Derived.KernelRfl
namespace Go.Proofs.Ytbkgbmnnnlpefaa
/- THE CELL 'sum', in the pinned program and in every row, IS THE sha256 OF THE DUMP (.gsa) THAT YtbkgbmnnnlpefaaProg.lean LOADS. Nothing in Lean hashes anything: it is a label: what it is worth is what the hold of that sum in a sandbox is worth. -/
noncomputable def Try.pinned : Pinned := { name := "ytbkgbmnnnlpefaa", sum := "46ed92a64e455bc37bc87a438e36c1aabe75c5b5e4a4f89f9ac7019eca5c723b", checked := Try.checked }
namespace Rows
def none {H : Type} : Left H := { results := [], args := [] }

/-- 'quipulaw.RankOrders': WHATEVER THE INPUT: true; the input reads as it did. -/
def rankOrdersSpec : ChangeSpec := { name := "rankOrders", fn := fun _ => fun
  | [d] => { results := [.lit (.bool true)], args := [d] }
  | _ => none }
def rankOrdersRow : OpenClaim := { program := "ytbkgbmnnnlpefaa", sum := "46ed92a64e455bc37bc87a438e36c1aabe75c5b5e4a4f89f9ac7019eca5c723b", func := "quipu/quipulaw.RankOrders", spec := "rankOrders", apart := false }
def RankOrdersSaid : Prop := rankOrdersRow.holds Try.pinned (OpenSpec.ofChange rankOrdersSpec)

/-- ITS FALSE NEIGHBOUR: 'it returns false'. Refute it at one input. -/
def rankOrdersWrong : ChangeSpec := { name := "rankOrders", fn := fun _ => fun
  | [d] => { results := [.lit (.bool false)], args := [d] }
  | _ => none }
def RankOrdersWrongFalsely : Prop := rankOrdersRow.holds Try.pinned (OpenSpec.ofChange rankOrdersWrong)

/-- 'quipulaw.RankLists': WHATEVER THE INPUT: true; the input reads as it did. -/
def rankListsSpec : ChangeSpec := { name := "rankLists", fn := fun _ => fun
  | [d1, d2] => { results := [.lit (.bool true)], args := [d1, d2] }
  | _ => none }
def rankListsRow : OpenClaim := { program := "ytbkgbmnnnlpefaa", sum := "46ed92a64e455bc37bc87a438e36c1aabe75c5b5e4a4f89f9ac7019eca5c723b", func := "quipu/quipulaw.RankLists", spec := "rankLists", apart := false }
def RankListsSaid : Prop := rankListsRow.holds Try.pinned (OpenSpec.ofChange rankListsSpec)

/-- ITS FALSE NEIGHBOUR: 'it returns false'. Refute it at one input. -/
def rankListsWrong : ChangeSpec := { name := "rankLists", fn := fun _ => fun
  | [d1, d2] => { results := [.lit (.bool false)], args := [d1, d2] }
  | _ => none }
def RankListsWrongFalsely : Prop := rankListsRow.holds Try.pinned (OpenSpec.ofChange rankListsWrong)

/-- 'quipulaw.TurnFronts': WHATEVER THE INPUT: true; the input reads as it did. -/
def turnFrontsSpec : ChangeSpec := { name := "turnFronts", fn := fun _ => fun
  | [d] => { results := [.lit (.bool true)], args := [d] }
  | _ => none }
def turnFrontsRow : OpenClaim := { program := "ytbkgbmnnnlpefaa", sum := "46ed92a64e455bc37bc87a438e36c1aabe75c5b5e4a4f89f9ac7019eca5c723b", func := "quipu/quipulaw.TurnFronts", spec := "turnFronts", inPlace := ["internal/bytealg.IndexByte"], apart := false }
def TurnFrontsSaid : Prop := turnFrontsRow.holds Try.pinned (OpenSpec.ofChange turnFrontsSpec)

/-- ITS FALSE NEIGHBOUR: 'it returns false'. Refute it at one input. -/
def turnFrontsWrong : ChangeSpec := { name := "turnFronts", fn := fun _ => fun
  | [d] => { results := [.lit (.bool false)], args := [d] }
  | _ => none }
def TurnFrontsWrongFalsely : Prop := turnFrontsRow.holds Try.pinned (OpenSpec.ofChange turnFrontsWrong)

/-- 'quipulaw.BallTells': WHATEVER THE INPUT: true; the input reads as it did. -/
def ballTellsSpec : ChangeSpec := { name := "ballTells", fn := fun _ => fun
  | [d1, d2, d3] => { results := [.lit (.bool true)], args := [d1, d2, d3] }
  | _ => none }
def ballTellsRow : OpenClaim := { program := "ytbkgbmnnnlpefaa", sum := "46ed92a64e455bc37bc87a438e36c1aabe75c5b5e4a4f89f9ac7019eca5c723b", func := "quipu/quipulaw.BallTells", spec := "ballTells", apart := false }
def BallTellsSaid : Prop := ballTellsRow.holds Try.pinned (OpenSpec.ofChange ballTellsSpec)

/-- ITS FALSE NEIGHBOUR: 'it returns false'. Refute it at one input. -/
def ballTellsWrong : ChangeSpec := { name := "ballTells", fn := fun _ => fun
  | [d1, d2, d3] => { results := [.lit (.bool false)], args := [d1, d2, d3] }
  | _ => none }
def BallTellsWrongFalsely : Prop := ballTellsRow.holds Try.pinned (OpenSpec.ofChange ballTellsWrong)

/-- 'quipulaw.RankRanks': WHATEVER THE INPUT: true; the input reads as it did. -/
def rankRanksSpec : ChangeSpec := { name := "rankRanks", fn := fun _ => fun
  | [d1, d2] => { results := [.lit (.bool true)], args := [d1, d2] }
  | _ => none }
def rankRanksRow : OpenClaim := { program := "ytbkgbmnnnlpefaa", sum := "46ed92a64e455bc37bc87a438e36c1aabe75c5b5e4a4f89f9ac7019eca5c723b", func := "quipu/quipulaw.RankRanks", spec := "rankRanks", apart := false }
def RankRanksSaid : Prop := rankRanksRow.holds Try.pinned (OpenSpec.ofChange rankRanksSpec)

/-- ITS FALSE NEIGHBOUR: 'it returns false'. Refute it at one input. -/
def rankRanksWrong : ChangeSpec := { name := "rankRanks", fn := fun _ => fun
  | [d1, d2] => { results := [.lit (.bool false)], args := [d1, d2] }
  | _ => none }
def RankRanksWrongFalsely : Prop := rankRanksRow.holds Try.pinned (OpenSpec.ofChange rankRanksWrong)

/-- 'quipulaw.SpanPuts': WHATEVER THE INPUT: true; the input reads as it did. -/
def spanPutsSpec : ChangeSpec := { name := "spanPuts", fn := fun _ => fun
  | [d1, d2, d3] => { results := [.lit (.bool true)], args := [d1, d2, d3] }
  | _ => none }
def spanPutsRow : OpenClaim := { program := "ytbkgbmnnnlpefaa", sum := "46ed92a64e455bc37bc87a438e36c1aabe75c5b5e4a4f89f9ac7019eca5c723b", func := "quipu/quipulaw.SpanPuts", spec := "spanPuts", apart := false }
def SpanPutsSaid : Prop := spanPutsRow.holds Try.pinned (OpenSpec.ofChange spanPutsSpec)

/-- ITS FALSE NEIGHBOUR: 'it returns false'. Refute it at one input. -/
def spanPutsWrong : ChangeSpec := { name := "spanPuts", fn := fun _ => fun
  | [d1, d2, d3] => { results := [.lit (.bool false)], args := [d1, d2, d3] }
  | _ => none }
def SpanPutsWrongFalsely : Prop := spanPutsRow.holds Try.pinned (OpenSpec.ofChange spanPutsWrong)

/-- 'quipulaw.BookChecks': WHATEVER THE INPUT: true; the input reads as it did. -/
def bookChecksSpec : ChangeSpec := { name := "bookChecks", fn := fun _ => fun
  | [d1, d2] => { results := [.lit (.bool true)], args := [d1, d2] }
  | _ => none }
def bookChecksRow : OpenClaim := { program := "ytbkgbmnnnlpefaa", sum := "46ed92a64e455bc37bc87a438e36c1aabe75c5b5e4a4f89f9ac7019eca5c723b", func := "quipu/quipulaw.BookChecks", spec := "bookChecks", apart := false }
def BookChecksSaid : Prop := bookChecksRow.holds Try.pinned (OpenSpec.ofChange bookChecksSpec)

/-- ITS FALSE NEIGHBOUR: 'it returns false'. Refute it at one input. -/
def bookChecksWrong : ChangeSpec := { name := "bookChecks", fn := fun _ => fun
  | [d1, d2] => { results := [.lit (.bool false)], args := [d1, d2] }
  | _ => none }
def BookChecksWrongFalsely : Prop := bookChecksRow.holds Try.pinned (OpenSpec.ofChange bookChecksWrong)

/-- 'quipulaw.RankWords': WHATEVER THE INPUT: true; the input reads as it did. -/
def rankWordsSpec : ChangeSpec := { name := "rankWords", fn := fun _ => fun
  | [d1, d2, d3] => { results := [.lit (.bool true)], args := [d1, d2, d3] }
  | _ => none }
def rankWordsRow : OpenClaim := { program := "ytbkgbmnnnlpefaa", sum := "46ed92a64e455bc37bc87a438e36c1aabe75c5b5e4a4f89f9ac7019eca5c723b", func := "quipu/quipulaw.RankWords", spec := "rankWords", apart := false }
def RankWordsSaid : Prop := rankWordsRow.holds Try.pinned (OpenSpec.ofChange rankWordsSpec)

/-- ITS FALSE NEIGHBOUR: 'it returns false'. Refute it at one input. -/
def rankWordsWrong : ChangeSpec := { name := "rankWords", fn := fun _ => fun
  | [d1, d2, d3] => { results := [.lit (.bool false)], args := [d1, d2, d3] }
  | _ => none }
def RankWordsWrongFalsely : Prop := rankWordsRow.holds Try.pinned (OpenSpec.ofChange rankWordsWrong)

/-- 'quipulaw.BookGrows': WHATEVER THE INPUT: true; the input reads as it did. -/
def bookGrowsSpec : ChangeSpec := { name := "bookGrows", fn := fun _ => fun
  | [d1, d2] => { results := [.lit (.bool true)], args := [d1, d2] }
  | _ => none }
def bookGrowsRow : OpenClaim := { program := "ytbkgbmnnnlpefaa", sum := "46ed92a64e455bc37bc87a438e36c1aabe75c5b5e4a4f89f9ac7019eca5c723b", func := "quipu/quipulaw.BookGrows", spec := "bookGrows", unfollowed := true, recurses := true, apart := false }
def BookGrowsSaid : Prop := bookGrowsRow.holds Try.pinned (OpenSpec.ofChange bookGrowsSpec)

/-- ITS FALSE NEIGHBOUR: 'it returns false'. Refute it at one input. -/
def bookGrowsWrong : ChangeSpec := { name := "bookGrows", fn := fun _ => fun
  | [d1, d2] => { results := [.lit (.bool false)], args := [d1, d2] }
  | _ => none }
def BookGrowsWrongFalsely : Prop := bookGrowsRow.holds Try.pinned (OpenSpec.ofChange bookGrowsWrong)

/-- 'quipulaw.BallSizes': WHATEVER THE INPUT: true; the input reads as it did. -/
def ballSizesSpec : ChangeSpec := { name := "ballSizes", fn := fun _ => fun
  | [d1, d2] => { results := [.lit (.bool true)], args := [d1, d2] }
  | _ => none }
def ballSizesRow : OpenClaim := { program := "ytbkgbmnnnlpefaa", sum := "46ed92a64e455bc37bc87a438e36c1aabe75c5b5e4a4f89f9ac7019eca5c723b", func := "quipu/quipulaw.BallSizes", spec := "ballSizes", apart := false }
def BallSizesSaid : Prop := ballSizesRow.holds Try.pinned (OpenSpec.ofChange ballSizesSpec)

/-- ITS FALSE NEIGHBOUR: 'it returns false'. Refute it at one input. -/
def ballSizesWrong : ChangeSpec := { name := "ballSizes", fn := fun _ => fun
  | [d1, d2] => { results := [.lit (.bool false)], args := [d1, d2] }
  | _ => none }
def BallSizesWrongFalsely : Prop := ballSizesRow.holds Try.pinned (OpenSpec.ofChange ballSizesWrong)

/-- 'quipulaw.BookLeasts': WHATEVER THE INPUT: true; the input reads as it did. -/
def bookLeastsSpec : ChangeSpec := { name := "bookLeasts", fn := fun _ => fun
  | [d1, d2] => { results := [.lit (.bool true)], args := [d1, d2] }
  | _ => none }
def bookLeastsRow : OpenClaim := { program := "ytbkgbmnnnlpefaa", sum := "46ed92a64e455bc37bc87a438e36c1aabe75c5b5e4a4f89f9ac7019eca5c723b", func := "quipu/quipulaw.BookLeasts", spec := "bookLeasts", apart := false }
def BookLeastsSaid : Prop := bookLeastsRow.holds Try.pinned (OpenSpec.ofChange bookLeastsSpec)

/-- ITS FALSE NEIGHBOUR: 'it returns false'. Refute it at one input. -/
def bookLeastsWrong : ChangeSpec := { name := "bookLeasts", fn := fun _ => fun
  | [d1, d2] => { results := [.lit (.bool false)], args := [d1, d2] }
  | _ => none }
def BookLeastsWrongFalsely : Prop := bookLeastsRow.holds Try.pinned (OpenSpec.ofChange bookLeastsWrong)

/-- 'quipulaw.BookNears': WHATEVER THE INPUT: true; the input reads as it did. -/
def bookNearsSpec : ChangeSpec := { name := "bookNears", fn := fun _ => fun
  | [d1, d2, d3] => { results := [.lit (.bool true)], args := [d1, d2, d3] }
  | _ => none }
def bookNearsRow : OpenClaim := { program := "ytbkgbmnnnlpefaa", sum := "46ed92a64e455bc37bc87a438e36c1aabe75c5b5e4a4f89f9ac7019eca5c723b", func := "quipu/quipulaw.BookNears", spec := "bookNears", unfollowed := true, recurses := true, apart := false }
def BookNearsSaid : Prop := bookNearsRow.holds Try.pinned (OpenSpec.ofChange bookNearsSpec)

/-- ITS FALSE NEIGHBOUR: 'it returns false'. Refute it at one input. -/
def bookNearsWrong : ChangeSpec := { name := "bookNears", fn := fun _ => fun
  | [d1, d2, d3] => { results := [.lit (.bool false)], args := [d1, d2, d3] }
  | _ => none }
def BookNearsWrongFalsely : Prop := bookNearsRow.holds Try.pinned (OpenSpec.ofChange bookNearsWrong)

/- THE SECOND FORM. 'bulk': how many values and letters a reading holds, each counted each time it is reached (what is shared counts as often as it is met; a slice's spare places count too). A statement '..UptoSaid' is the law's where the arguments, and the package variables that the reading takes, are together of bulk at most 1048576: NARROWER than '..Said'. Prove '..Said' where nothing that the law and all that it calls make is longer than what came in: it says more and counts as full. Else prove '..UptoSaid'. A law counts once. -/
mutual
def uptoBulk {H : Type} : DataW H → Nat
  | .lit (.string bytes) => bytes.length + 1
  | .lit _ => 1
  | .nil => 1
  | .ptr d => uptoBulk d + 1
  | .slice elems spare => uptoBulkAll elems + uptoBulkAll spare + 1
  | .agg parts => uptoBulkAll parts + 1
  | .iface _ d => uptoBulk d + 1
  | .map entries => uptoBulkEntries entries + 1
  | .held _ => 1
def uptoBulkAll {H : Type} : List (DataW H) → Nat
  | [] => 0
  | d :: r => uptoBulk d + uptoBulkAll r
def uptoBulkEntries {H : Type} : List (Lit × DataW H) → Nat
  | [] => 0
  | x :: r => uptoBulkEntry x + uptoBulkEntries r
def uptoBulkEntry {H : Type} : Lit × DataW H → Nat
  | (.string bytes, d) => bytes.length + uptoBulk d + 1
  | (_, d) => uptoBulk d + 1
 end
def uptoSmall : (H : Type) → List (DataW H) → Bool := fun _ ds => decide (uptoBulkAll ds ≤ 1048576)
def OpenSpec.upto (s : _root_.Go.ChangeSpec) : _root_.Go.OpenSpec := { _root_.Go.OpenSpec.ofChange s with cond := some uptoSmall }

/-- 'quipulaw.RankOrders', WHERE WHAT IT READS IS OF BULK AT MOST 1048576: true; the input reads as it did. -/
def rankOrdersUptoRow : OpenClaim := { program := "ytbkgbmnnnlpefaa", sum := "46ed92a64e455bc37bc87a438e36c1aabe75c5b5e4a4f89f9ac7019eca5c723b", func := "quipu/quipulaw.RankOrders", spec := "rankOrders", apart := false, narrowed := true }
def RankOrdersUptoSaid : Prop := rankOrdersUptoRow.holds Try.pinned (OpenSpec.upto rankOrdersSpec)

/-- 'quipulaw.RankLists', WHERE WHAT IT READS IS OF BULK AT MOST 1048576: true; the input reads as it did. -/
def rankListsUptoRow : OpenClaim := { program := "ytbkgbmnnnlpefaa", sum := "46ed92a64e455bc37bc87a438e36c1aabe75c5b5e4a4f89f9ac7019eca5c723b", func := "quipu/quipulaw.RankLists", spec := "rankLists", apart := false, narrowed := true }
def RankListsUptoSaid : Prop := rankListsUptoRow.holds Try.pinned (OpenSpec.upto rankListsSpec)

/-- 'quipulaw.TurnFronts', WHERE WHAT IT READS IS OF BULK AT MOST 1048576: true; the input reads as it did. -/
def turnFrontsUptoRow : OpenClaim := { program := "ytbkgbmnnnlpefaa", sum := "46ed92a64e455bc37bc87a438e36c1aabe75c5b5e4a4f89f9ac7019eca5c723b", func := "quipu/quipulaw.TurnFronts", spec := "turnFronts", inPlace := ["internal/bytealg.IndexByte"], apart := false, narrowed := true }
def TurnFrontsUptoSaid : Prop := turnFrontsUptoRow.holds Try.pinned (OpenSpec.upto turnFrontsSpec)

/-- 'quipulaw.BallTells', WHERE WHAT IT READS IS OF BULK AT MOST 1048576: true; the input reads as it did. -/
def ballTellsUptoRow : OpenClaim := { program := "ytbkgbmnnnlpefaa", sum := "46ed92a64e455bc37bc87a438e36c1aabe75c5b5e4a4f89f9ac7019eca5c723b", func := "quipu/quipulaw.BallTells", spec := "ballTells", apart := false, narrowed := true }
def BallTellsUptoSaid : Prop := ballTellsUptoRow.holds Try.pinned (OpenSpec.upto ballTellsSpec)

/-- 'quipulaw.RankRanks', WHERE WHAT IT READS IS OF BULK AT MOST 1048576: true; the input reads as it did. -/
def rankRanksUptoRow : OpenClaim := { program := "ytbkgbmnnnlpefaa", sum := "46ed92a64e455bc37bc87a438e36c1aabe75c5b5e4a4f89f9ac7019eca5c723b", func := "quipu/quipulaw.RankRanks", spec := "rankRanks", apart := false, narrowed := true }
def RankRanksUptoSaid : Prop := rankRanksUptoRow.holds Try.pinned (OpenSpec.upto rankRanksSpec)

/-- 'quipulaw.SpanPuts', WHERE WHAT IT READS IS OF BULK AT MOST 1048576: true; the input reads as it did. -/
def spanPutsUptoRow : OpenClaim := { program := "ytbkgbmnnnlpefaa", sum := "46ed92a64e455bc37bc87a438e36c1aabe75c5b5e4a4f89f9ac7019eca5c723b", func := "quipu/quipulaw.SpanPuts", spec := "spanPuts", apart := false, narrowed := true }
def SpanPutsUptoSaid : Prop := spanPutsUptoRow.holds Try.pinned (OpenSpec.upto spanPutsSpec)

/-- 'quipulaw.BookChecks', WHERE WHAT IT READS IS OF BULK AT MOST 1048576: true; the input reads as it did. -/
def bookChecksUptoRow : OpenClaim := { program := "ytbkgbmnnnlpefaa", sum := "46ed92a64e455bc37bc87a438e36c1aabe75c5b5e4a4f89f9ac7019eca5c723b", func := "quipu/quipulaw.BookChecks", spec := "bookChecks", apart := false, narrowed := true }
def BookChecksUptoSaid : Prop := bookChecksUptoRow.holds Try.pinned (OpenSpec.upto bookChecksSpec)

/-- 'quipulaw.RankWords', WHERE WHAT IT READS IS OF BULK AT MOST 1048576: true; the input reads as it did. -/
def rankWordsUptoRow : OpenClaim := { program := "ytbkgbmnnnlpefaa", sum := "46ed92a64e455bc37bc87a438e36c1aabe75c5b5e4a4f89f9ac7019eca5c723b", func := "quipu/quipulaw.RankWords", spec := "rankWords", apart := false, narrowed := true }
def RankWordsUptoSaid : Prop := rankWordsUptoRow.holds Try.pinned (OpenSpec.upto rankWordsSpec)

/-- 'quipulaw.BookGrows', WHERE WHAT IT READS IS OF BULK AT MOST 1048576: true; the input reads as it did. -/
def bookGrowsUptoRow : OpenClaim := { program := "ytbkgbmnnnlpefaa", sum := "46ed92a64e455bc37bc87a438e36c1aabe75c5b5e4a4f89f9ac7019eca5c723b", func := "quipu/quipulaw.BookGrows", spec := "bookGrows", unfollowed := true, recurses := true, apart := false, narrowed := true }
def BookGrowsUptoSaid : Prop := bookGrowsUptoRow.holds Try.pinned (OpenSpec.upto bookGrowsSpec)

/-- 'quipulaw.BallSizes', WHERE WHAT IT READS IS OF BULK AT MOST 1048576: true; the input reads as it did. -/
def ballSizesUptoRow : OpenClaim := { program := "ytbkgbmnnnlpefaa", sum := "46ed92a64e455bc37bc87a438e36c1aabe75c5b5e4a4f89f9ac7019eca5c723b", func := "quipu/quipulaw.BallSizes", spec := "ballSizes", apart := false, narrowed := true }
def BallSizesUptoSaid : Prop := ballSizesUptoRow.holds Try.pinned (OpenSpec.upto ballSizesSpec)

/-- 'quipulaw.BookLeasts', WHERE WHAT IT READS IS OF BULK AT MOST 1048576: true; the input reads as it did. -/
def bookLeastsUptoRow : OpenClaim := { program := "ytbkgbmnnnlpefaa", sum := "46ed92a64e455bc37bc87a438e36c1aabe75c5b5e4a4f89f9ac7019eca5c723b", func := "quipu/quipulaw.BookLeasts", spec := "bookLeasts", apart := false, narrowed := true }
def BookLeastsUptoSaid : Prop := bookLeastsUptoRow.holds Try.pinned (OpenSpec.upto bookLeastsSpec)

/-- 'quipulaw.BookNears', WHERE WHAT IT READS IS OF BULK AT MOST 1048576: true; the input reads as it did. -/
def bookNearsUptoRow : OpenClaim := { program := "ytbkgbmnnnlpefaa", sum := "46ed92a64e455bc37bc87a438e36c1aabe75c5b5e4a4f89f9ac7019eca5c723b", func := "quipu/quipulaw.BookNears", spec := "bookNears", unfollowed := true, recurses := true, apart := false, narrowed := true }
def BookNearsUptoSaid : Prop := bookNearsUptoRow.holds Try.pinned (OpenSpec.upto bookNearsSpec)

end Rows
end Go.Proofs.Ytbkgbmnnnlpefaa

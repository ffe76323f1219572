/-
  No cell of these rows narrows 'for every input' (looked for: loops, veiled, ifaces, maps, wideKeys, modest, calm, conditions, laid).
  DERIVED. THE GIVEN ROWS OF THIS SEAT. 12 by the template 'for every input the law returns true; each argument reads behind the call as it read before'; 0 by the template 'total and deterministic' (their statements: YtfhpgiidcggobaaTotals.lean).
  GIVEN WITH THE SEED: the statements are not yours to turn. If you find one false, say at which input.
  Laid BY PROGRAM, IN A SANDBOX (cutbox-rows.mjs): the forced cells as the released guide's own fill.sh prints them over the translation 8eeaeede405fcc8a… (all of the seat's roots in one cut). By AI agents, Wed Nov 11 2026. No macro, syntax, notation, axiom, sorry.
-/
import Derived.Test.YtfhpgiidcggobaaChecked
import GoSem.Claim
import GoSem.ClaimJoined
import GoSem.ClaimMapViews
import Derived.JoinedTies
import Derived.KernelRfl
namespace Go.Proofs.Ytfhpgiidcggobaa
/- THE CELL 'sum', in the pinned program and in every row, IS THE sha256 OF THE DUMP (.gsa) THAT YtfhpgiidcggobaaProg.lean LOADS. Nothing in Lean hashes anything: it is a label: what it is worth is what the hold of that sum in a sandbox is worth. -/
noncomputable def Try.pinned : Pinned := { name := "ytfhpgiidcggobaa", sum := "8eeaeede405fcc8a8919ce487a66177f969b9c8fb72476b129545bd1f6c9cd22", checked := Try.checked }
namespace Rows
def none {H : Type} : Left H := { results := [], args := [] }

/-- 'quipulaw.PrefixWrites': WHATEVER THE INPUT: true; the input reads as it did. -/
def prefixWritesSpec : ChangeSpec := { name := "prefixWrites", fn := fun _ => fun
  | [d1, d2] => { results := [.lit (.bool true)], args := [d1, d2] }
  | _ => none }
def prefixWritesRow : OpenClaim := { program := "ytfhpgiidcggobaa", sum := "8eeaeede405fcc8a8919ce487a66177f969b9c8fb72476b129545bd1f6c9cd22", func := "quipu/quipulaw.PrefixWrites", spec := "prefixWrites", unfollowed := true, recurses := true, apart := false }
def PrefixWritesSaid : Prop := prefixWritesRow.holds Try.pinned (OpenSpec.ofChange prefixWritesSpec)

/-- ITS FALSE NEIGHBOUR: 'it returns false'. Refute it at one input. -/
def prefixWritesWrong : ChangeSpec := { name := "prefixWrites", fn := fun _ => fun
  | [d1, d2] => { results := [.lit (.bool false)], args := [d1, d2] }
  | _ => none }
def PrefixWritesWrongFalsely : Prop := prefixWritesRow.holds Try.pinned (OpenSpec.ofChange prefixWritesWrong)

/-- 'quipulaw.EliasReadsGamma': WHATEVER THE INPUT: true; the input reads as it did. -/
def eliasReadsGammaSpec : ChangeSpec := { name := "eliasReadsGamma", fn := fun _ => fun
  | [d] => { results := [.lit (.bool true)], args := [d] }
  | _ => none }
def eliasReadsGammaRow : OpenClaim := { program := "ytfhpgiidcggobaa", sum := "8eeaeede405fcc8a8919ce487a66177f969b9c8fb72476b129545bd1f6c9cd22", func := "quipu/quipulaw.EliasReadsGamma", spec := "eliasReadsGamma", apart := false }
def EliasReadsGammaSaid : Prop := eliasReadsGammaRow.holds Try.pinned (OpenSpec.ofChange eliasReadsGammaSpec)

/-- ITS FALSE NEIGHBOUR: 'it returns false'. Refute it at one input. -/
def eliasReadsGammaWrong : ChangeSpec := { name := "eliasReadsGamma", fn := fun _ => fun
  | [d] => { results := [.lit (.bool false)], args := [d] }
  | _ => none }
def EliasReadsGammaWrongFalsely : Prop := eliasReadsGammaRow.holds Try.pinned (OpenSpec.ofChange eliasReadsGammaWrong)

/-- 'quipulaw.AlphaMakes': WHATEVER THE INPUT: true; the input reads as it did. -/
def alphaMakesSpec : ChangeSpec := { name := "alphaMakes", fn := fun _ => fun
  | [d] => { results := [.lit (.bool true)], args := [d] }
  | _ => none }
def alphaMakesRow : OpenClaim := { program := "ytfhpgiidcggobaa", sum := "8eeaeede405fcc8a8919ce487a66177f969b9c8fb72476b129545bd1f6c9cd22", func := "quipu/quipulaw.AlphaMakes", spec := "alphaMakes", apart := false }
def AlphaMakesSaid : Prop := alphaMakesRow.holds Try.pinned (OpenSpec.ofChange alphaMakesSpec)

/-- ITS FALSE NEIGHBOUR: 'it returns false'. Refute it at one input. -/
def alphaMakesWrong : ChangeSpec := { name := "alphaMakes", fn := fun _ => fun
  | [d] => { results := [.lit (.bool false)], args := [d] }
  | _ => none }
def AlphaMakesWrongFalsely : Prop := alphaMakesRow.holds Try.pinned (OpenSpec.ofChange alphaMakesWrong)

/-- 'quipulaw.PrefixTells': WHATEVER THE INPUT: true; the input reads as it did. -/
def prefixTellsSpec : ChangeSpec := { name := "prefixTells", fn := fun _ => fun
  | [d] => { results := [.lit (.bool true)], args := [d] }
  | _ => none }
def prefixTellsRow : OpenClaim := { program := "ytfhpgiidcggobaa", sum := "8eeaeede405fcc8a8919ce487a66177f969b9c8fb72476b129545bd1f6c9cd22", func := "quipu/quipulaw.PrefixTells", spec := "prefixTells", unfollowed := true, recurses := true, apart := false }
def PrefixTellsSaid : Prop := prefixTellsRow.holds Try.pinned (OpenSpec.ofChange prefixTellsSpec)

/-- ITS FALSE NEIGHBOUR: 'it returns false'. Refute it at one input. -/
def prefixTellsWrong : ChangeSpec := { name := "prefixTells", fn := fun _ => fun
  | [d] => { results := [.lit (.bool false)], args := [d] }
  | _ => none }
def PrefixTellsWrongFalsely : Prop := prefixTellsRow.holds Try.pinned (OpenSpec.ofChange prefixTellsWrong)

/-- 'quipulaw.EliasGammas': WHATEVER THE INPUT: true; the input reads as it did. -/
def eliasGammasSpec : ChangeSpec := { name := "eliasGammas", fn := fun _ => fun
  | [d] => { results := [.lit (.bool true)], args := [d] }
  | _ => none }
def eliasGammasRow : OpenClaim := { program := "ytfhpgiidcggobaa", sum := "8eeaeede405fcc8a8919ce487a66177f969b9c8fb72476b129545bd1f6c9cd22", func := "quipu/quipulaw.EliasGammas", spec := "eliasGammas", apart := false }
def EliasGammasSaid : Prop := eliasGammasRow.holds Try.pinned (OpenSpec.ofChange eliasGammasSpec)

/-- ITS FALSE NEIGHBOUR: 'it returns false'. Refute it at one input. -/
def eliasGammasWrong : ChangeSpec := { name := "eliasGammas", fn := fun _ => fun
  | [d] => { results := [.lit (.bool false)], args := [d] }
  | _ => none }
def EliasGammasWrongFalsely : Prop := eliasGammasRow.holds Try.pinned (OpenSpec.ofChange eliasGammasWrong)

/-- 'quipulaw.EliasDeltas': WHATEVER THE INPUT: true; the input reads as it did. -/
def eliasDeltasSpec : ChangeSpec := { name := "eliasDeltas", fn := fun _ => fun
  | [d] => { results := [.lit (.bool true)], args := [d] }
  | _ => none }
def eliasDeltasRow : OpenClaim := { program := "ytfhpgiidcggobaa", sum := "8eeaeede405fcc8a8919ce487a66177f969b9c8fb72476b129545bd1f6c9cd22", func := "quipu/quipulaw.EliasDeltas", spec := "eliasDeltas", apart := false }
def EliasDeltasSaid : Prop := eliasDeltasRow.holds Try.pinned (OpenSpec.ofChange eliasDeltasSpec)

/-- ITS FALSE NEIGHBOUR: 'it returns false'. Refute it at one input. -/
def eliasDeltasWrong : ChangeSpec := { name := "eliasDeltas", fn := fun _ => fun
  | [d] => { results := [.lit (.bool false)], args := [d] }
  | _ => none }
def EliasDeltasWrongFalsely : Prop := eliasDeltasRow.holds Try.pinned (OpenSpec.ofChange eliasDeltasWrong)

/-- 'quipulaw.AlphaCosts': WHATEVER THE INPUT: true; the input reads as it did. -/
def alphaCostsSpec : ChangeSpec := { name := "alphaCosts", fn := fun _ => fun
  | [d] => { results := [.lit (.bool true)], args := [d] }
  | _ => none }
def alphaCostsRow : OpenClaim := { program := "ytfhpgiidcggobaa", sum := "8eeaeede405fcc8a8919ce487a66177f969b9c8fb72476b129545bd1f6c9cd22", func := "quipu/quipulaw.AlphaCosts", spec := "alphaCosts", unfollowed := true, recurses := true, apart := false }
def AlphaCostsSaid : Prop := alphaCostsRow.holds Try.pinned (OpenSpec.ofChange alphaCostsSpec)

/-- ITS FALSE NEIGHBOUR: 'it returns false'. Refute it at one input. -/
def alphaCostsWrong : ChangeSpec := { name := "alphaCosts", fn := fun _ => fun
  | [d] => { results := [.lit (.bool false)], args := [d] }
  | _ => none }
def AlphaCostsWrongFalsely : Prop := alphaCostsRow.holds Try.pinned (OpenSpec.ofChange alphaCostsWrong)

/-- 'quipulaw.PrefixReads': WHATEVER THE INPUT: true; the input reads as it did. -/
def prefixReadsSpec : ChangeSpec := { name := "prefixReads", fn := fun _ => fun
  | [d1, d2] => { results := [.lit (.bool true)], args := [d1, d2] }
  | _ => none }
def prefixReadsRow : OpenClaim := { program := "ytfhpgiidcggobaa", sum := "8eeaeede405fcc8a8919ce487a66177f969b9c8fb72476b129545bd1f6c9cd22", func := "quipu/quipulaw.PrefixReads", spec := "prefixReads", unfollowed := true, recurses := true, apart := false }
def PrefixReadsSaid : Prop := prefixReadsRow.holds Try.pinned (OpenSpec.ofChange prefixReadsSpec)

/-- ITS FALSE NEIGHBOUR: 'it returns false'. Refute it at one input. -/
def prefixReadsWrong : ChangeSpec := { name := "prefixReads", fn := fun _ => fun
  | [d1, d2] => { results := [.lit (.bool false)], args := [d1, d2] }
  | _ => none }
def PrefixReadsWrongFalsely : Prop := prefixReadsRow.holds Try.pinned (OpenSpec.ofChange prefixReadsWrong)

/-- 'quipulaw.EliasReadsDelta': WHATEVER THE INPUT: true; the input reads as it did. -/
def eliasReadsDeltaSpec : ChangeSpec := { name := "eliasReadsDelta", fn := fun _ => fun
  | [d] => { results := [.lit (.bool true)], args := [d] }
  | _ => none }
def eliasReadsDeltaRow : OpenClaim := { program := "ytfhpgiidcggobaa", sum := "8eeaeede405fcc8a8919ce487a66177f969b9c8fb72476b129545bd1f6c9cd22", func := "quipu/quipulaw.EliasReadsDelta", spec := "eliasReadsDelta", apart := false }
def EliasReadsDeltaSaid : Prop := eliasReadsDeltaRow.holds Try.pinned (OpenSpec.ofChange eliasReadsDeltaSpec)

/-- ITS FALSE NEIGHBOUR: 'it returns false'. Refute it at one input. -/
def eliasReadsDeltaWrong : ChangeSpec := { name := "eliasReadsDelta", fn := fun _ => fun
  | [d] => { results := [.lit (.bool false)], args := [d] }
  | _ => none }
def EliasReadsDeltaWrongFalsely : Prop := eliasReadsDeltaRow.holds Try.pinned (OpenSpec.ofChange eliasReadsDeltaWrong)

/-- 'quipulaw.AlphaLens': WHATEVER THE INPUT: true; the input reads as it did. -/
def alphaLensSpec : ChangeSpec := { name := "alphaLens", fn := fun _ => fun
  | [d] => { results := [.lit (.bool true)], args := [d] }
  | _ => none }
def alphaLensRow : OpenClaim := { program := "ytfhpgiidcggobaa", sum := "8eeaeede405fcc8a8919ce487a66177f969b9c8fb72476b129545bd1f6c9cd22", func := "quipu/quipulaw.AlphaLens", spec := "alphaLens", unfollowed := true, recurses := true, apart := false }
def AlphaLensSaid : Prop := alphaLensRow.holds Try.pinned (OpenSpec.ofChange alphaLensSpec)

/-- ITS FALSE NEIGHBOUR: 'it returns false'. Refute it at one input. -/
def alphaLensWrong : ChangeSpec := { name := "alphaLens", fn := fun _ => fun
  | [d] => { results := [.lit (.bool false)], args := [d] }
  | _ => none }
def AlphaLensWrongFalsely : Prop := alphaLensRow.holds Try.pinned (OpenSpec.ofChange alphaLensWrong)

/-- 'quipulaw.UniqueTells': WHATEVER THE INPUT: true; the input reads as it did. -/
def uniqueTellsSpec : ChangeSpec := { name := "uniqueTells", fn := fun _ => fun
  | [d] => { results := [.lit (.bool true)], args := [d] }
  | _ => none }
def uniqueTellsRow : OpenClaim := { program := "ytfhpgiidcggobaa", sum := "8eeaeede405fcc8a8919ce487a66177f969b9c8fb72476b129545bd1f6c9cd22", func := "quipu/quipulaw.UniqueTells", spec := "uniqueTells", unfollowed := true, recurses := true, apart := false }
def UniqueTellsSaid : Prop := uniqueTellsRow.holds Try.pinned (OpenSpec.ofChange uniqueTellsSpec)

/-- ITS FALSE NEIGHBOUR: 'it returns false'. Refute it at one input. -/
def uniqueTellsWrong : ChangeSpec := { name := "uniqueTells", fn := fun _ => fun
  | [d] => { results := [.lit (.bool false)], args := [d] }
  | _ => none }
def UniqueTellsWrongFalsely : Prop := uniqueTellsRow.holds Try.pinned (OpenSpec.ofChange uniqueTellsWrong)

/-- 'quipulaw.UniqueTwice': WHATEVER THE INPUT: true; the input reads as it did. -/
def uniqueTwiceSpec : ChangeSpec := { name := "uniqueTwice", fn := fun _ => fun
  | [d] => { results := [.lit (.bool true)], args := [d] }
  | _ => none }
def uniqueTwiceRow : OpenClaim := { program := "ytfhpgiidcggobaa", sum := "8eeaeede405fcc8a8919ce487a66177f969b9c8fb72476b129545bd1f6c9cd22", func := "quipu/quipulaw.UniqueTwice", spec := "uniqueTwice", unfollowed := true, recurses := true, apart := false }
def UniqueTwiceSaid : Prop := uniqueTwiceRow.holds Try.pinned (OpenSpec.ofChange uniqueTwiceSpec)

/-- ITS FALSE NEIGHBOUR: 'it returns false'. Refute it at one input. -/
def uniqueTwiceWrong : ChangeSpec := { name := "uniqueTwice", fn := fun _ => fun
  | [d] => { results := [.lit (.bool false)], args := [d] }
  | _ => none }
def UniqueTwiceWrongFalsely : Prop := uniqueTwiceRow.holds Try.pinned (OpenSpec.ofChange uniqueTwiceWrong)

/- THE SECOND FORM. 'bulk': how many values and letters a reading holds, each counted each time it is reached (what is shared counts as often as it is met; a slice's spare places count too). A statement '..UptoSaid' is the law's where the arguments, and the package variables that the reading takes, are together of bulk at most 1048576: NARROWER than '..Said'. Prove '..Said' where nothing that the law and all that it calls make is longer than what came in: it says more and counts as full. Else prove '..UptoSaid'. A law counts once. -/
mutual
def uptoBulk {H : Type} : DataW H → Nat
  | .lit (.string bytes) => bytes.length + 1
  | .lit _ => 1
  | .nil => 1
  | .ptr d => uptoBulk d + 1
  | .slice elems spare => uptoBulkAll elems + uptoBulkAll spare + 1
  | .agg parts => uptoBulkAll parts + 1
  | .iface _ d => uptoBulk d + 1
  | .map entries => uptoBulkEntries entries + 1
  | .held _ => 1
def uptoBulkAll {H : Type} : List (DataW H) → Nat
  | [] => 0
  | d :: r => uptoBulk d + uptoBulkAll r
def uptoBulkEntries {H : Type} : List (Lit × DataW H) → Nat
  | [] => 0
  | x :: r => uptoBulkEntry x + uptoBulkEntries r
def uptoBulkEntry {H : Type} : Lit × DataW H → Nat
  | (.string bytes, d) => bytes.length + uptoBulk d + 1
  | (_, d) => uptoBulk d + 1
 end
def uptoSmall : (H : Type) → List (DataW H) → Bool := fun _ ds => decide (uptoBulkAll ds ≤ 1048576)
def OpenSpec.upto (s : _root_.Go.ChangeSpec) : _root_.Go.OpenSpec := { _root_.Go.OpenSpec.ofChange s with cond := some uptoSmall }

/-- 'quipulaw.PrefixWrites', WHERE WHAT IT READS IS OF BULK AT MOST 1048576: true; the input reads as it did. -/
def prefixWritesUptoRow : OpenClaim := { program := "ytfhpgiidcggobaa", sum := "8eeaeede405fcc8a8919ce487a66177f969b9c8fb72476b129545bd1f6c9cd22", func := "quipu/quipulaw.PrefixWrites", spec := "prefixWrites", unfollowed := true, recurses := true, apart := false, narrowed := true }
def PrefixWritesUptoSaid : Prop := prefixWritesUptoRow.holds Try.pinned (OpenSpec.upto prefixWritesSpec)

/-- 'quipulaw.EliasReadsGamma', WHERE WHAT IT READS IS OF BULK AT MOST 1048576: true; the input reads as it did. -/
def eliasReadsGammaUptoRow : OpenClaim := { program := "ytfhpgiidcggobaa", sum := "8eeaeede405fcc8a8919ce487a66177f969b9c8fb72476b129545bd1f6c9cd22", func := "quipu/quipulaw.EliasReadsGamma", spec := "eliasReadsGamma", apart := false, narrowed := true }
def EliasReadsGammaUptoSaid : Prop := eliasReadsGammaUptoRow.holds Try.pinned (OpenSpec.upto eliasReadsGammaSpec)

/-- 'quipulaw.AlphaMakes', WHERE WHAT IT READS IS OF BULK AT MOST 1048576: true; the input reads as it did. -/
def alphaMakesUptoRow : OpenClaim := { program := "ytfhpgiidcggobaa", sum := "8eeaeede405fcc8a8919ce487a66177f969b9c8fb72476b129545bd1f6c9cd22", func := "quipu/quipulaw.AlphaMakes", spec := "alphaMakes", apart := false, narrowed := true }
def AlphaMakesUptoSaid : Prop := alphaMakesUptoRow.holds Try.pinned (OpenSpec.upto alphaMakesSpec)

/-- 'quipulaw.PrefixTells', WHERE WHAT IT READS IS OF BULK AT MOST 1048576: true; the input reads as it did. -/
def prefixTellsUptoRow : OpenClaim := { program := "ytfhpgiidcggobaa", sum := "8eeaeede405fcc8a8919ce487a66177f969b9c8fb72476b129545bd1f6c9cd22", func := "quipu/quipulaw.PrefixTells", spec := "prefixTells", unfollowed := true, recurses := true, apart := false, narrowed := true }
def PrefixTellsUptoSaid : Prop := prefixTellsUptoRow.holds Try.pinned (OpenSpec.upto prefixTellsSpec)

/-- 'quipulaw.EliasGammas', WHERE WHAT IT READS IS OF BULK AT MOST 1048576: true; the input reads as it did. -/
def eliasGammasUptoRow : OpenClaim := { program := "ytfhpgiidcggobaa", sum := "8eeaeede405fcc8a8919ce487a66177f969b9c8fb72476b129545bd1f6c9cd22", func := "quipu/quipulaw.EliasGammas", spec := "eliasGammas", apart := false, narrowed := true }
def EliasGammasUptoSaid : Prop := eliasGammasUptoRow.holds Try.pinned (OpenSpec.upto eliasGammasSpec)

/-- 'quipulaw.EliasDeltas', WHERE WHAT IT READS IS OF BULK AT MOST 1048576: true; the input reads as it did. -/
def eliasDeltasUptoRow : OpenClaim := { program := "ytfhpgiidcggobaa", sum := "8eeaeede405fcc8a8919ce487a66177f969b9c8fb72476b129545bd1f6c9cd22", func := "quipu/quipulaw.EliasDeltas", spec := "eliasDeltas", apart := false, narrowed := true }
def EliasDeltasUptoSaid : Prop := eliasDeltasUptoRow.holds Try.pinned (OpenSpec.upto eliasDeltasSpec)

/-- 'quipulaw.AlphaCosts', WHERE WHAT IT READS IS OF BULK AT MOST 1048576: true; the input reads as it did. -/
def alphaCostsUptoRow : OpenClaim := { program := "ytfhpgiidcggobaa", sum := "8eeaeede405fcc8a8919ce487a66177f969b9c8fb72476b129545bd1f6c9cd22", func := "quipu/quipulaw.AlphaCosts", spec := "alphaCosts", unfollowed := true, recurses := true, apart := false, narrowed := true }
def AlphaCostsUptoSaid : Prop := alphaCostsUptoRow.holds Try.pinned (OpenSpec.upto alphaCostsSpec)

/-- 'quipulaw.PrefixReads', WHERE WHAT IT READS IS OF BULK AT MOST 1048576: true; the input reads as it did. -/
def prefixReadsUptoRow : OpenClaim := { program := "ytfhpgiidcggobaa", sum := "8eeaeede405fcc8a8919ce487a66177f969b9c8fb72476b129545bd1f6c9cd22", func := "quipu/quipulaw.PrefixReads", spec := "prefixReads", unfollowed := true, recurses := true, apart := false, narrowed := true }
def PrefixReadsUptoSaid : Prop := prefixReadsUptoRow.holds Try.pinned (OpenSpec.upto prefixReadsSpec)

/-- 'quipulaw.EliasReadsDelta', WHERE WHAT IT READS IS OF BULK AT MOST 1048576: true; the input reads as it did. -/
def eliasReadsDeltaUptoRow : OpenClaim := { program := "ytfhpgiidcggobaa", sum := "8eeaeede405fcc8a8919ce487a66177f969b9c8fb72476b129545bd1f6c9cd22", func := "quipu/quipulaw.EliasReadsDelta", spec := "eliasReadsDelta", apart := false, narrowed := true }
def EliasReadsDeltaUptoSaid : Prop := eliasReadsDeltaUptoRow.holds Try.pinned (OpenSpec.upto eliasReadsDeltaSpec)

/-- 'quipulaw.AlphaLens', WHERE WHAT IT READS IS OF BULK AT MOST 1048576: true; the input reads as it did. -/
def alphaLensUptoRow : OpenClaim := { program := "ytfhpgiidcggobaa", sum := "8eeaeede405fcc8a8919ce487a66177f969b9c8fb72476b129545bd1f6c9cd22", func := "quipu/quipulaw.AlphaLens", spec := "alphaLens", unfollowed := true, recurses := true, apart := false, narrowed := true }
def AlphaLensUptoSaid : Prop := alphaLensUptoRow.holds Try.pinned (OpenSpec.upto alphaLensSpec)

/-- 'quipulaw.UniqueTells', WHERE WHAT IT READS IS OF BULK AT MOST 1048576: true; the input reads as it did. -/
def uniqueTellsUptoRow : OpenClaim := { program := "ytfhpgiidcggobaa", sum := "8eeaeede405fcc8a8919ce487a66177f969b9c8fb72476b129545bd1f6c9cd22", func := "quipu/quipulaw.UniqueTells", spec := "uniqueTells", unfollowed := true, recurses := true, apart := false, narrowed := true }
def UniqueTellsUptoSaid : Prop := uniqueTellsUptoRow.holds Try.pinned (OpenSpec.upto uniqueTellsSpec)

/-- 'quipulaw.UniqueTwice', WHERE WHAT IT READS IS OF BULK AT MOST 1048576: true; the input reads as it did. -/
def uniqueTwiceUptoRow : OpenClaim := { program := "ytfhpgiidcggobaa", sum := "8eeaeede405fcc8a8919ce487a66177f969b9c8fb72476b129545bd1f6c9cd22", func := "quipu/quipulaw.UniqueTwice", spec := "uniqueTwice", unfollowed := true, recurses := true, apart := false, narrowed := true }
def UniqueTwiceUptoSaid : Prop := uniqueTwiceUptoRow.holds Try.pinned (OpenSpec.upto uniqueTwiceSpec)

end Rows
end Go.Proofs.Ytfhpgiidcggobaa

/-
  No cell of these rows narrows 'for every input' (looked for: loops, veiled, ifaces, maps, wideKeys, modest, calm, conditions, laid).
  DERIVED. THE GIVEN ROWS OF THIS SEAT. 12 by the template 'for every input the law returns true; each argument reads behind the call as it read before'; 0 by the template 'total and deterministic' (their statements: YtakpkllfoddalaaTotals.lean).
  GIVEN WITH THE SEED: the statements are not yours to turn. If you find one false, say at which input.
  Laid BY PROGRAM, IN A SANDBOX (cutbox-rows.mjs): the forced cells as the released guide's own fill.sh prints them over the translation 6a35c15385169a8d… (all of the seat's roots in one cut). By AI agents, Wed Nov 11 2026. No macro, syntax, notation, axiom, sorry.
-/
import Derived.Test.YtakpkllfoddalaaChecked
import GoSem.Claim
import GoSem.ClaimJoined
import GoSem.ClaimMapViews
import Derived.JoinedTies
import Derived.KernelRfl
namespace Go.Proofs.Ytakpkllfoddalaa
/- THE CELL 'sum', in the pinned program and in every row, IS THE sha256 OF THE DUMP (.gsa) THAT YtakpkllfoddalaaProg.lean LOADS. Nothing in Lean hashes anything: it is a label: what it is worth is what the hold of that sum in a sandbox is worth. -/
noncomputable def Try.pinned : Pinned := { name := "ytakpkllfoddalaa", sum := "6a35c15385169a8d82ea1cfe0f6f151ede121e7ec03990182ad9ff54e7e656ed", checked := Try.checked }
namespace Rows
def none {H : Type} : Left H := { results := [], args := [] }

/-- 'quipulaw.DropWords': WHATEVER THE INPUT: true; the input reads as it did. -/
def dropWordsSpec : ChangeSpec := { name := "dropWords", fn := fun _ => fun
  | [d1, d2] => { results := [.lit (.bool true)], args := [d1, d2] }
  | _ => none }
def dropWordsRow : OpenClaim := { program := "ytakpkllfoddalaa", sum := "6a35c15385169a8d82ea1cfe0f6f151ede121e7ec03990182ad9ff54e7e656ed", func := "quipu/quipulaw.DropWords", spec := "dropWords", apart := false }
def DropWordsSaid : Prop := dropWordsRow.holds Try.pinned (OpenSpec.ofChange dropWordsSpec)

/-- ITS FALSE NEIGHBOUR: 'it returns false'. Refute it at one input. -/
def dropWordsWrong : ChangeSpec := { name := "dropWords", fn := fun _ => fun
  | [d1, d2] => { results := [.lit (.bool false)], args := [d1, d2] }
  | _ => none }
def DropWordsWrongFalsely : Prop := dropWordsRow.holds Try.pinned (OpenSpec.ofChange dropWordsWrong)

/-- 'quipulaw.StuffBares': WHATEVER THE INPUT: true; the input reads as it did. -/
def stuffBaresSpec : ChangeSpec := { name := "stuffBares", fn := fun _ => fun
  | [d] => { results := [.lit (.bool true)], args := [d] }
  | _ => none }
def stuffBaresRow : OpenClaim := { program := "ytakpkllfoddalaa", sum := "6a35c15385169a8d82ea1cfe0f6f151ede121e7ec03990182ad9ff54e7e656ed", func := "quipu/quipulaw.StuffBares", spec := "stuffBares", apart := false }
def StuffBaresSaid : Prop := stuffBaresRow.holds Try.pinned (OpenSpec.ofChange stuffBaresSpec)

/-- ITS FALSE NEIGHBOUR: 'it returns false'. Refute it at one input. -/
def stuffBaresWrong : ChangeSpec := { name := "stuffBares", fn := fun _ => fun
  | [d] => { results := [.lit (.bool false)], args := [d] }
  | _ => none }
def StuffBaresWrongFalsely : Prop := stuffBaresRow.holds Try.pinned (OpenSpec.ofChange stuffBaresWrong)

/-- 'quipulaw.HammPuts': WHATEVER THE INPUT: true; the input reads as it did. -/
def hammPutsSpec : ChangeSpec := { name := "hammPuts", fn := fun _ => fun
  | [d1, d2] => { results := [.lit (.bool true)], args := [d1, d2] }
  | _ => none }
def hammPutsRow : OpenClaim := { program := "ytakpkllfoddalaa", sum := "6a35c15385169a8d82ea1cfe0f6f151ede121e7ec03990182ad9ff54e7e656ed", func := "quipu/quipulaw.HammPuts", spec := "hammPuts", apart := false }
def HammPutsSaid : Prop := hammPutsRow.holds Try.pinned (OpenSpec.ofChange hammPutsSpec)

/-- ITS FALSE NEIGHBOUR: 'it returns false'. Refute it at one input. -/
def hammPutsWrong : ChangeSpec := { name := "hammPuts", fn := fun _ => fun
  | [d1, d2] => { results := [.lit (.bool false)], args := [d1, d2] }
  | _ => none }
def HammPutsWrongFalsely : Prop := hammPutsRow.holds Try.pinned (OpenSpec.ofChange hammPutsWrong)

/-- 'quipulaw.GrayRounds': WHATEVER THE INPUT: true; the input reads as it did. -/
def grayRoundsSpec : ChangeSpec := { name := "grayRounds", fn := fun _ => fun
  | [d] => { results := [.lit (.bool true)], args := [d] }
  | _ => none }
def grayRoundsRow : OpenClaim := { program := "ytakpkllfoddalaa", sum := "6a35c15385169a8d82ea1cfe0f6f151ede121e7ec03990182ad9ff54e7e656ed", func := "quipu/quipulaw.GrayRounds", spec := "grayRounds", apart := false }
def GrayRoundsSaid : Prop := grayRoundsRow.holds Try.pinned (OpenSpec.ofChange grayRoundsSpec)

/-- ITS FALSE NEIGHBOUR: 'it returns false'. Refute it at one input. -/
def grayRoundsWrong : ChangeSpec := { name := "grayRounds", fn := fun _ => fun
  | [d] => { results := [.lit (.bool false)], args := [d] }
  | _ => none }
def GrayRoundsWrongFalsely : Prop := grayRoundsRow.holds Try.pinned (OpenSpec.ofChange grayRoundsWrong)

/-- 'quipulaw.EvenTurns': WHATEVER THE INPUT: true; the input reads as it did. -/
def evenTurnsSpec : ChangeSpec := { name := "evenTurns", fn := fun _ => fun
  | [d] => { results := [.lit (.bool true)], args := [d] }
  | _ => none }
def evenTurnsRow : OpenClaim := { program := "ytakpkllfoddalaa", sum := "6a35c15385169a8d82ea1cfe0f6f151ede121e7ec03990182ad9ff54e7e656ed", func := "quipu/quipulaw.EvenTurns", spec := "evenTurns", apart := false }
def EvenTurnsSaid : Prop := evenTurnsRow.holds Try.pinned (OpenSpec.ofChange evenTurnsSpec)

/-- ITS FALSE NEIGHBOUR: 'it returns false'. Refute it at one input. -/
def evenTurnsWrong : ChangeSpec := { name := "evenTurns", fn := fun _ => fun
  | [d] => { results := [.lit (.bool false)], args := [d] }
  | _ => none }
def EvenTurnsWrongFalsely : Prop := evenTurnsRow.holds Try.pinned (OpenSpec.ofChange evenTurnsWrong)

/-- 'quipulaw.HammFixes': WHATEVER THE INPUT: true; the input reads as it did. -/
def hammFixesSpec : ChangeSpec := { name := "hammFixes", fn := fun _ => fun
  | [d1, d2] => { results := [.lit (.bool true)], args := [d1, d2] }
  | _ => none }
def hammFixesRow : OpenClaim := { program := "ytakpkllfoddalaa", sum := "6a35c15385169a8d82ea1cfe0f6f151ede121e7ec03990182ad9ff54e7e656ed", func := "quipu/quipulaw.HammFixes", spec := "hammFixes", apart := false }
def HammFixesSaid : Prop := hammFixesRow.holds Try.pinned (OpenSpec.ofChange hammFixesSpec)

/-- ITS FALSE NEIGHBOUR: 'it returns false'. Refute it at one input. -/
def hammFixesWrong : ChangeSpec := { name := "hammFixes", fn := fun _ => fun
  | [d1, d2] => { results := [.lit (.bool false)], args := [d1, d2] }
  | _ => none }
def HammFixesWrongFalsely : Prop := hammFixesRow.holds Try.pinned (OpenSpec.ofChange hammFixesWrong)

/-- 'quipulaw.HammPutsTwo': WHATEVER THE INPUT: true; the input reads as it did. -/
def hammPutsTwoSpec : ChangeSpec := { name := "hammPutsTwo", fn := fun _ => fun
  | [d1, d2] => { results := [.lit (.bool true)], args := [d1, d2] }
  | _ => none }
def hammPutsTwoRow : OpenClaim := { program := "ytakpkllfoddalaa", sum := "6a35c15385169a8d82ea1cfe0f6f151ede121e7ec03990182ad9ff54e7e656ed", func := "quipu/quipulaw.HammPutsTwo", spec := "hammPutsTwo", apart := false }
def HammPutsTwoSaid : Prop := hammPutsTwoRow.holds Try.pinned (OpenSpec.ofChange hammPutsTwoSpec)

/-- ITS FALSE NEIGHBOUR: 'it returns false'. Refute it at one input. -/
def hammPutsTwoWrong : ChangeSpec := { name := "hammPutsTwo", fn := fun _ => fun
  | [d1, d2] => { results := [.lit (.bool false)], args := [d1, d2] }
  | _ => none }
def HammPutsTwoWrongFalsely : Prop := hammPutsTwoRow.holds Try.pinned (OpenSpec.ofChange hammPutsTwoWrong)

/-- 'quipulaw.StuffSplits': WHATEVER THE INPUT: true; the input reads as it did. -/
def stuffSplitsSpec : ChangeSpec := { name := "stuffSplits", fn := fun _ => fun
  | [d] => { results := [.lit (.bool true)], args := [d] }
  | _ => none }
def stuffSplitsRow : OpenClaim := { program := "ytakpkllfoddalaa", sum := "6a35c15385169a8d82ea1cfe0f6f151ede121e7ec03990182ad9ff54e7e656ed", func := "quipu/quipulaw.StuffSplits", spec := "stuffSplits", apart := false }
def StuffSplitsSaid : Prop := stuffSplitsRow.holds Try.pinned (OpenSpec.ofChange stuffSplitsSpec)

/-- ITS FALSE NEIGHBOUR: 'it returns false'. Refute it at one input. -/
def stuffSplitsWrong : ChangeSpec := { name := "stuffSplits", fn := fun _ => fun
  | [d] => { results := [.lit (.bool false)], args := [d] }
  | _ => none }
def StuffSplitsWrongFalsely : Prop := stuffSplitsRow.holds Try.pinned (OpenSpec.ofChange stuffSplitsWrong)

/-- 'quipulaw.EvenPuts': WHATEVER THE INPUT: true; the input reads as it did. -/
def evenPutsSpec : ChangeSpec := { name := "evenPuts", fn := fun _ => fun
  | [d] => { results := [.lit (.bool true)], args := [d] }
  | _ => none }
def evenPutsRow : OpenClaim := { program := "ytakpkllfoddalaa", sum := "6a35c15385169a8d82ea1cfe0f6f151ede121e7ec03990182ad9ff54e7e656ed", func := "quipu/quipulaw.EvenPuts", spec := "evenPuts", apart := false }
def EvenPutsSaid : Prop := evenPutsRow.holds Try.pinned (OpenSpec.ofChange evenPutsSpec)

/-- ITS FALSE NEIGHBOUR: 'it returns false'. Refute it at one input. -/
def evenPutsWrong : ChangeSpec := { name := "evenPuts", fn := fun _ => fun
  | [d] => { results := [.lit (.bool false)], args := [d] }
  | _ => none }
def EvenPutsWrongFalsely : Prop := evenPutsRow.holds Try.pinned (OpenSpec.ofChange evenPutsWrong)

/-- 'quipulaw.HammFixesTwo': WHATEVER THE INPUT: true; the input reads as it did. -/
def hammFixesTwoSpec : ChangeSpec := { name := "hammFixesTwo", fn := fun _ => fun
  | [d1, d2] => { results := [.lit (.bool true)], args := [d1, d2] }
  | _ => none }
def hammFixesTwoRow : OpenClaim := { program := "ytakpkllfoddalaa", sum := "6a35c15385169a8d82ea1cfe0f6f151ede121e7ec03990182ad9ff54e7e656ed", func := "quipu/quipulaw.HammFixesTwo", spec := "hammFixesTwo", apart := false }
def HammFixesTwoSaid : Prop := hammFixesTwoRow.holds Try.pinned (OpenSpec.ofChange hammFixesTwoSpec)

/-- ITS FALSE NEIGHBOUR: 'it returns false'. Refute it at one input. -/
def hammFixesTwoWrong : ChangeSpec := { name := "hammFixesTwo", fn := fun _ => fun
  | [d1, d2] => { results := [.lit (.bool false)], args := [d1, d2] }
  | _ => none }
def HammFixesTwoWrongFalsely : Prop := hammFixesTwoRow.holds Try.pinned (OpenSpec.ofChange hammFixesTwoWrong)

/-- 'quipulaw.StuffFrames': WHATEVER THE INPUT: true; the input reads as it did. -/
def stuffFramesSpec : ChangeSpec := { name := "stuffFrames", fn := fun _ => fun
  | [d] => { results := [.lit (.bool true)], args := [d] }
  | _ => none }
def stuffFramesRow : OpenClaim := { program := "ytakpkllfoddalaa", sum := "6a35c15385169a8d82ea1cfe0f6f151ede121e7ec03990182ad9ff54e7e656ed", func := "quipu/quipulaw.StuffFrames", spec := "stuffFrames", unfollowed := true, recurses := true, apart := false }
def StuffFramesSaid : Prop := stuffFramesRow.holds Try.pinned (OpenSpec.ofChange stuffFramesSpec)

/-- ITS FALSE NEIGHBOUR: 'it returns false'. Refute it at one input. -/
def stuffFramesWrong : ChangeSpec := { name := "stuffFrames", fn := fun _ => fun
  | [d] => { results := [.lit (.bool false)], args := [d] }
  | _ => none }
def StuffFramesWrongFalsely : Prop := stuffFramesRow.holds Try.pinned (OpenSpec.ofChange stuffFramesWrong)

/-- 'quipulaw.EvenGets': WHATEVER THE INPUT: true; the input reads as it did. -/
def evenGetsSpec : ChangeSpec := { name := "evenGets", fn := fun _ => fun
  | [d] => { results := [.lit (.bool true)], args := [d] }
  | _ => none }
def evenGetsRow : OpenClaim := { program := "ytakpkllfoddalaa", sum := "6a35c15385169a8d82ea1cfe0f6f151ede121e7ec03990182ad9ff54e7e656ed", func := "quipu/quipulaw.EvenGets", spec := "evenGets", apart := false }
def EvenGetsSaid : Prop := evenGetsRow.holds Try.pinned (OpenSpec.ofChange evenGetsSpec)

/-- ITS FALSE NEIGHBOUR: 'it returns false'. Refute it at one input. -/
def evenGetsWrong : ChangeSpec := { name := "evenGets", fn := fun _ => fun
  | [d] => { results := [.lit (.bool false)], args := [d] }
  | _ => none }
def EvenGetsWrongFalsely : Prop := evenGetsRow.holds Try.pinned (OpenSpec.ofChange evenGetsWrong)

/- THE SECOND FORM. 'bulk': how many values and letters a reading holds, each counted each time it is reached (what is shared counts as often as it is met; a slice's spare places count too). A statement '..UptoSaid' is the law's where the arguments, and the package variables that the reading takes, are together of bulk at most 1048576: NARROWER than '..Said'. Prove '..Said' where nothing that the law and all that it calls make is longer than what came in: it says more and counts as full. Else prove '..UptoSaid'. A law counts once. -/
mutual
def uptoBulk {H : Type} : DataW H → Nat
  | .lit (.string bytes) => bytes.length + 1
  | .lit _ => 1
  | .nil => 1
  | .ptr d => uptoBulk d + 1
  | .slice elems spare => uptoBulkAll elems + uptoBulkAll spare + 1
  | .agg parts => uptoBulkAll parts + 1
  | .iface _ d => uptoBulk d + 1
  | .map entries => uptoBulkEntries entries + 1
  | .held _ => 1
def uptoBulkAll {H : Type} : List (DataW H) → Nat
  | [] => 0
  | d :: r => uptoBulk d + uptoBulkAll r
def uptoBulkEntries {H : Type} : List (Lit × DataW H) → Nat
  | [] => 0
  | x :: r => uptoBulkEntry x + uptoBulkEntries r
def uptoBulkEntry {H : Type} : Lit × DataW H → Nat
  | (.string bytes, d) => bytes.length + uptoBulk d + 1
  | (_, d) => uptoBulk d + 1
 end
def uptoSmall : (H : Type) → List (DataW H) → Bool := fun _ ds => decide (uptoBulkAll ds ≤ 1048576)
def OpenSpec.upto (s : _root_.Go.ChangeSpec) : _root_.Go.OpenSpec := { _root_.Go.OpenSpec.ofChange s with cond := some uptoSmall }

/-- 'quipulaw.DropWords', WHERE WHAT IT READS IS OF BULK AT MOST 1048576: true; the input reads as it did. -/
def dropWordsUptoRow : OpenClaim := { program := "ytakpkllfoddalaa", sum := "6a35c15385169a8d82ea1cfe0f6f151ede121e7ec03990182ad9ff54e7e656ed", func := "quipu/quipulaw.DropWords", spec := "dropWords", apart := false, narrowed := true }
def DropWordsUptoSaid : Prop := dropWordsUptoRow.holds Try.pinned (OpenSpec.upto dropWordsSpec)

/-- 'quipulaw.StuffBares', WHERE WHAT IT READS IS OF BULK AT MOST 1048576: true; the input reads as it did. -/
def stuffBaresUptoRow : OpenClaim := { program := "ytakpkllfoddalaa", sum := "6a35c15385169a8d82ea1cfe0f6f151ede121e7ec03990182ad9ff54e7e656ed", func := "quipu/quipulaw.StuffBares", spec := "stuffBares", apart := false, narrowed := true }
def StuffBaresUptoSaid : Prop := stuffBaresUptoRow.holds Try.pinned (OpenSpec.upto stuffBaresSpec)

/-- 'quipulaw.HammPuts', WHERE WHAT IT READS IS OF BULK AT MOST 1048576: true; the input reads as it did. -/
def hammPutsUptoRow : OpenClaim := { program := "ytakpkllfoddalaa", sum := "6a35c15385169a8d82ea1cfe0f6f151ede121e7ec03990182ad9ff54e7e656ed", func := "quipu/quipulaw.HammPuts", spec := "hammPuts", apart := false, narrowed := true }
def HammPutsUptoSaid : Prop := hammPutsUptoRow.holds Try.pinned (OpenSpec.upto hammPutsSpec)

/-- 'quipulaw.GrayRounds', WHERE WHAT IT READS IS OF BULK AT MOST 1048576: true; the input reads as it did. -/
def grayRoundsUptoRow : OpenClaim := { program := "ytakpkllfoddalaa", sum := "6a35c15385169a8d82ea1cfe0f6f151ede121e7ec03990182ad9ff54e7e656ed", func := "quipu/quipulaw.GrayRounds", spec := "grayRounds", apart := false, narrowed := true }
def GrayRoundsUptoSaid : Prop := grayRoundsUptoRow.holds Try.pinned (OpenSpec.upto grayRoundsSpec)

/-- 'quipulaw.EvenTurns', WHERE WHAT IT READS IS OF BULK AT MOST 1048576: true; the input reads as it did. -/
def evenTurnsUptoRow : OpenClaim := { program := "ytakpkllfoddalaa", sum := "6a35c15385169a8d82ea1cfe0f6f151ede121e7ec03990182ad9ff54e7e656ed", func := "quipu/quipulaw.EvenTurns", spec := "evenTurns", apart := false, narrowed := true }
def EvenTurnsUptoSaid : Prop := evenTurnsUptoRow.holds Try.pinned (OpenSpec.upto evenTurnsSpec)

/-- 'quipulaw.HammFixes', WHERE WHAT IT READS IS OF BULK AT MOST 1048576: true; the input reads as it did. -/
def hammFixesUptoRow : OpenClaim := { program := "ytakpkllfoddalaa", sum := "6a35c15385169a8d82ea1cfe0f6f151ede121e7ec03990182ad9ff54e7e656ed", func := "quipu/quipulaw.HammFixes", spec := "hammFixes", apart := false, narrowed := true }
def HammFixesUptoSaid : Prop := hammFixesUptoRow.holds Try.pinned (OpenSpec.upto hammFixesSpec)

/-- 'quipulaw.HammPutsTwo', WHERE WHAT IT READS IS OF BULK AT MOST 1048576: true; the input reads as it did. -/
def hammPutsTwoUptoRow : OpenClaim := { program := "ytakpkllfoddalaa", sum := "6a35c15385169a8d82ea1cfe0f6f151ede121e7ec03990182ad9ff54e7e656ed", func := "quipu/quipulaw.HammPutsTwo", spec := "hammPutsTwo", apart := false, narrowed := true }
def HammPutsTwoUptoSaid : Prop := hammPutsTwoUptoRow.holds Try.pinned (OpenSpec.upto hammPutsTwoSpec)

/-- 'quipulaw.StuffSplits', WHERE WHAT IT READS IS OF BULK AT MOST 1048576: true; the input reads as it did. -/
def stuffSplitsUptoRow : OpenClaim := { program := "ytakpkllfoddalaa", sum := "6a35c15385169a8d82ea1cfe0f6f151ede121e7ec03990182ad9ff54e7e656ed", func := "quipu/quipulaw.StuffSplits", spec := "stuffSplits", apart := false, narrowed := true }
def StuffSplitsUptoSaid : Prop := stuffSplitsUptoRow.holds Try.pinned (OpenSpec.upto stuffSplitsSpec)

/-- 'quipulaw.EvenPuts', WHERE WHAT IT READS IS OF BULK AT MOST 1048576: true; the input reads as it did. -/
def evenPutsUptoRow : OpenClaim := { program := "ytakpkllfoddalaa", sum := "6a35c15385169a8d82ea1cfe0f6f151ede121e7ec03990182ad9ff54e7e656ed", func := "quipu/quipulaw.EvenPuts", spec := "evenPuts", apart := false, narrowed := true }
def EvenPutsUptoSaid : Prop := evenPutsUptoRow.holds Try.pinned (OpenSpec.upto evenPutsSpec)

/-- 'quipulaw.HammFixesTwo', WHERE WHAT IT READS IS OF BULK AT MOST 1048576: true; the input reads as it did. -/
def hammFixesTwoUptoRow : OpenClaim := { program := "ytakpkllfoddalaa", sum := "6a35c15385169a8d82ea1cfe0f6f151ede121e7ec03990182ad9ff54e7e656ed", func := "quipu/quipulaw.HammFixesTwo", spec := "hammFixesTwo", apart := false, narrowed := true }
def HammFixesTwoUptoSaid : Prop := hammFixesTwoUptoRow.holds Try.pinned (OpenSpec.upto hammFixesTwoSpec)

/-- 'quipulaw.StuffFrames', WHERE WHAT IT READS IS OF BULK AT MOST 1048576: true; the input reads as it did. -/
def stuffFramesUptoRow : OpenClaim := { program := "ytakpkllfoddalaa", sum := "6a35c15385169a8d82ea1cfe0f6f151ede121e7ec03990182ad9ff54e7e656ed", func := "quipu/quipulaw.StuffFrames", spec := "stuffFrames", unfollowed := true, recurses := true, apart := false, narrowed := true }
def StuffFramesUptoSaid : Prop := stuffFramesUptoRow.holds Try.pinned (OpenSpec.upto stuffFramesSpec)

/-- 'quipulaw.EvenGets', WHERE WHAT IT READS IS OF BULK AT MOST 1048576: true; the input reads as it did. -/
def evenGetsUptoRow : OpenClaim := { program := "ytakpkllfoddalaa", sum := "6a35c15385169a8d82ea1cfe0f6f151ede121e7ec03990182ad9ff54e7e656ed", func := "quipu/quipulaw.EvenGets", spec := "evenGets", apart := false, narrowed := true }
def EvenGetsUptoSaid : Prop := evenGetsUptoRow.holds Try.pinned (OpenSpec.upto evenGetsSpec)

end Rows
end Go.Proofs.Ytakpkllfoddalaa

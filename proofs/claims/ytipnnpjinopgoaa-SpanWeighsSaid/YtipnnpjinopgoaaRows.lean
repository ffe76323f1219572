/-
  No cell of these rows narrows 'for every input' (looked for: loops, veiled, ifaces, maps, wideKeys, modest, calm, conditions, laid).
  DERIVED. THE GIVEN ROWS OF THIS SEAT. 3 by the template 'for every input the law returns true; each argument reads behind the call as it read before'; 0 by the template 'total and deterministic' (their statements: YtipnnpjinopgoaaTotals.lean).
  GIVEN WITH THE SEED: the statements are not yours to turn. If you find one false, say at which input.
  Laid BY PROGRAM, IN A SANDBOX (cutbox-rows.mjs): the forced cells as the released guide's own fill.sh prints them over the translation 7441bb78b44c38fd… (all of the seat's roots in one cut). By AI agents, Wed Nov 11 2026. No macro, syntax, notation, axiom, sorry.
-/
import Derived.Test.YtipnnpjinopgoaaChecked
import GoSem.Claim
import GoSem.ClaimJoined
import GoSem.ClaimMapViews
import Derived.JoinedTies
import Derived.KernelRfl
namespace Go.Proofs.Ytipnnpjinopgoaa
/- THE CELL 'sum', in the pinned program and in every row, IS THE sha256 OF THE DUMP (.gsa) THAT YtipnnpjinopgoaaProg.lean LOADS. Nothing in Lean hashes anything: it is a label: what it is worth is what the hold of that sum in a sandbox is worth. -/
noncomputable def Try.pinned : Pinned := { name := "ytipnnpjinopgoaa", sum := "7441bb78b44c38fd1111c427515d92e4f938c0b69de79c7be0bbf10a6e2fc525", checked := Try.checked }
namespace Rows
def none {H : Type} : Left H := { results := [], args := [] }

/-- 'quipulaw.SpanTells': WHATEVER THE INPUT: true; the input reads as it did. -/
def spanTellsSpec : ChangeSpec := { name := "spanTells", fn := fun _ => fun
  | [d1, d2] => { results := [.lit (.bool true)], args := [d1, d2] }
  | _ => none }
def spanTellsRow : OpenClaim := { program := "ytipnnpjinopgoaa", sum := "7441bb78b44c38fd1111c427515d92e4f938c0b69de79c7be0bbf10a6e2fc525", func := "quipu/quipulaw.SpanTells", spec := "spanTells", recurses := true, apart := false }
def SpanTellsSaid : Prop := spanTellsRow.holds Try.pinned (OpenSpec.ofChange spanTellsSpec)

/-- ITS FALSE NEIGHBOUR: 'it returns false'. Refute it at one input. -/
def spanTellsWrong : ChangeSpec := { name := "spanTells", fn := fun _ => fun
  | [d1, d2] => { results := [.lit (.bool false)], args := [d1, d2] }
  | _ => none }
def SpanTellsWrongFalsely : Prop := spanTellsRow.holds Try.pinned (OpenSpec.ofChange spanTellsWrong)

/-- 'quipulaw.SpanSizes': WHATEVER THE INPUT: true; the input reads as it did. -/
def spanSizesSpec : ChangeSpec := { name := "spanSizes", fn := fun _ => fun
  | [d1, d2] => { results := [.lit (.bool true)], args := [d1, d2] }
  | _ => none }
def spanSizesRow : OpenClaim := { program := "ytipnnpjinopgoaa", sum := "7441bb78b44c38fd1111c427515d92e4f938c0b69de79c7be0bbf10a6e2fc525", func := "quipu/quipulaw.SpanSizes", spec := "spanSizes", recurses := true, apart := false }
def SpanSizesSaid : Prop := spanSizesRow.holds Try.pinned (OpenSpec.ofChange spanSizesSpec)

/-- ITS FALSE NEIGHBOUR: 'it returns false'. Refute it at one input. -/
def spanSizesWrong : ChangeSpec := { name := "spanSizes", fn := fun _ => fun
  | [d1, d2] => { results := [.lit (.bool false)], args := [d1, d2] }
  | _ => none }
def SpanSizesWrongFalsely : Prop := spanSizesRow.holds Try.pinned (OpenSpec.ofChange spanSizesWrong)

/-- 'quipulaw.SpanWeighs': WHATEVER THE INPUT: true; the input reads as it did. -/
def spanWeighsSpec : ChangeSpec := { name := "spanWeighs", fn := fun _ => fun
  | [d1, d2] => { results := [.lit (.bool true)], args := [d1, d2] }
  | _ => none }
def spanWeighsRow : OpenClaim := { program := "ytipnnpjinopgoaa", sum := "7441bb78b44c38fd1111c427515d92e4f938c0b69de79c7be0bbf10a6e2fc525", func := "quipu/quipulaw.SpanWeighs", spec := "spanWeighs", recurses := true, apart := false }
def SpanWeighsSaid : Prop := spanWeighsRow.holds Try.pinned (OpenSpec.ofChange spanWeighsSpec)

/-- ITS FALSE NEIGHBOUR: 'it returns false'. Refute it at one input. -/
def spanWeighsWrong : ChangeSpec := { name := "spanWeighs", fn := fun _ => fun
  | [d1, d2] => { results := [.lit (.bool false)], args := [d1, d2] }
  | _ => none }
def SpanWeighsWrongFalsely : Prop := spanWeighsRow.holds Try.pinned (OpenSpec.ofChange spanWeighsWrong)

/- THE SECOND FORM. 'bulk': how many values and letters a reading holds, each counted each time it is reached (what is shared counts as often as it is met; a slice's spare places count too). A statement '..UptoSaid' is the law's where the arguments, and the package variables that the reading takes, are together of bulk at most 1048576: NARROWER than '..Said'. Prove '..Said' where nothing that the law and all that it calls make is longer than what came in: it says more and counts as full. Else prove '..UptoSaid'. A law counts once. -/
mutual
def uptoBulk {H : Type} : DataW H → Nat
  | .lit (.string bytes) => bytes.length + 1
  | .lit _ => 1
  | .nil => 1
  | .ptr d => uptoBulk d + 1
  | .slice elems spare => uptoBulkAll elems + uptoBulkAll spare + 1
  | .agg parts => uptoBulkAll parts + 1
  | .iface _ d => uptoBulk d + 1
  | .map entries => uptoBulkEntries entries + 1
  | .held _ => 1
def uptoBulkAll {H : Type} : List (DataW H) → Nat
  | [] => 0
  | d :: r => uptoBulk d + uptoBulkAll r
def uptoBulkEntries {H : Type} : List (Lit × DataW H) → Nat
  | [] => 0
  | x :: r => uptoBulkEntry x + uptoBulkEntries r
def uptoBulkEntry {H : Type} : Lit × DataW H → Nat
  | (.string bytes, d) => bytes.length + uptoBulk d + 1
  | (_, d) => uptoBulk d + 1
 end
def uptoSmall : (H : Type) → List (DataW H) → Bool := fun _ ds => decide (uptoBulkAll ds ≤ 1048576)
def OpenSpec.upto (s : _root_.Go.ChangeSpec) : _root_.Go.OpenSpec := { _root_.Go.OpenSpec.ofChange s with cond := some uptoSmall }

/-- 'quipulaw.SpanTells', WHERE WHAT IT READS IS OF BULK AT MOST 1048576: true; the input reads as it did. -/
def spanTellsUptoRow : OpenClaim := { program := "ytipnnpjinopgoaa", sum := "7441bb78b44c38fd1111c427515d92e4f938c0b69de79c7be0bbf10a6e2fc525", func := "quipu/quipulaw.SpanTells", spec := "spanTells", recurses := true, apart := false, narrowed := true }
def SpanTellsUptoSaid : Prop := spanTellsUptoRow.holds Try.pinned (OpenSpec.upto spanTellsSpec)

/-- 'quipulaw.SpanSizes', WHERE WHAT IT READS IS OF BULK AT MOST 1048576: true; the input reads as it did. -/
def spanSizesUptoRow : OpenClaim := { program := "ytipnnpjinopgoaa", sum := "7441bb78b44c38fd1111c427515d92e4f938c0b69de79c7be0bbf10a6e2fc525", func := "quipu/quipulaw.SpanSizes", spec := "spanSizes", recurses := true, apart := false, narrowed := true }
def SpanSizesUptoSaid : Prop := spanSizesUptoRow.holds Try.pinned (OpenSpec.upto spanSizesSpec)

/-- 'quipulaw.SpanWeighs', WHERE WHAT IT READS IS OF BULK AT MOST 1048576: true; the input reads as it did. -/
def spanWeighsUptoRow : OpenClaim := { program := "ytipnnpjinopgoaa", sum := "7441bb78b44c38fd1111c427515d92e4f938c0b69de79c7be0bbf10a6e2fc525", func := "quipu/quipulaw.SpanWeighs", spec := "spanWeighs", recurses := true, apart := false, narrowed := true }
def SpanWeighsUptoSaid : Prop := spanWeighsUptoRow.holds Try.pinned (OpenSpec.upto spanWeighsSpec)

end Rows
end Go.Proofs.Ytipnnpjinopgoaa

/-
  A map whose keys are phrases (a struct of a number and a byte), to numbers: what a key finds, as a function.
-/
import Derived.Test.YtglcljlafioleaaOwn
import Derived.Test.YtglcljlafioleaaProg
import Derived.Maps.Own
import Derived.Maps.OwnSet
import Derived.Maps.Views
import Derived.DeepKeys3
set_option linter.unusedVariables false
namespace Go.Proofs.Ytglcljlafioleaa
open Go.RowKit
open Go.Maps (Keyed)

def phV (p b : Nat) : Value := .agg #[.int .i64 (p : Int), .int .u8 (b : Int)]
theorem wf_i64p (p : Nat) (h : p ≤ 1000000) : (Lit.int .i64 (p : Int)).wf = true := by
  have h1 : IntKind.i64.min = -9223372036854775808 := rfl
  have h2 : IntKind.i64.max = 9223372036854775807 := rfl
  simp [Lit.wf]; omega
theorem wf_u8p (b : Nat) (h : b < 256) : (Lit.int .u8 (b : Int)).wf = true := by
  have h1 : IntKind.u8.min = 0 := rfl
  have h2 : IntKind.u8.max = 255 := rfl
  simp [Lit.wf]; omega
theorem ph_law : WideMaps.KeyLaw Try.prog 69 := deep_law (m := 3) (by omega) (by kernel_rfl) (by kernel_rfl) (by rw [Try.underlying69])
theorem ph_keyed : Keyed Try.prog 69 := Keyed.of_law ph_law
theorem ph_size : ∃ d, Try.prog.types.size = d + 1 := ⟨Try.prog.types.size - 1, by kernel_rfl⟩
theorem lits_int {P : Program} {t : TypeId} {q : IntKind} (h : P.underlying t = some (.int q)) (d : Nat) (n : Int) (hw : (Lit.int q n).wf = true) : P.keyLits (d + 1) t [.int q n] = some [.int q n] := by
  simp [Program.keyLits, h, hw]
theorem ph_key (p b : Nat) (hp : p ≤ 1000000) (hb : b < 256) : ∃ l, keyOf Try.prog 69 (phV p b) = some l := by
  have h1 : Try.prog.keyType 69 = true := by kernel_rfl
  have h2 : Try.prog.cellsOf 69 = 2 := by kernel_rfl
  have h3 : Try.prog.cellsOf 3 = 1 := by kernel_rfl
  have h4 : Try.prog.cellsOf 5 = 1 := by kernel_rfl
  obtain ⟨d, hd⟩ := ph_size
  have hf : (phV p b).formed Try.prog 69 = true := by simp [phV, Value.formed, Try.underlying69, h2]
  have hl : ∃ L, Try.prog.keyLits (Try.prog.types.size + 1) 69 (phV p b).cells.toList = some L := by
    rw [hd]
    refine ⟨[.int .i64 (p : Int), .int .u8 (b : Int)], ?_⟩
    simp [Program.keyLits, Try.underlying69, phV, Value.cells, h2, h3, h4, wf_i64p p hp, wf_u8p b hb, Try.underlying3, Try.underlying5]
  obtain ⟨L, hL⟩ := hl
  refine ⟨.string (keyBytes L), ?_⟩
  unfold keyOf
  rw [Try.underlying69]
  simp only [h1, hf, Bool.and_self, if_true]
  rw [hL]
  rfl
def keyLP (P : Program) (k : TypeId) (p b : Nat) : Lit := (keyOf P k (phV p b)).getD (.bool false)
theorem keyL_is {p b : Nat} (hp : p ≤ 1000000) (hb : b < 256) : keyOf Try.prog 69 (phV p b) = some (keyLP Try.prog 69 p b) := by
  obtain ⟨l, h⟩ := ph_key p b hp hb
  unfold keyLP
  rw [h]; rfl
theorem keyL_inj {p b p' b' : Nat} (hp : p ≤ 1000000) (hb : b < 256) (hp' : p' ≤ 1000000) (hb' : b' < 256) (h : keyLP Try.prog 69 p b = keyLP Try.prog 69 p' b') : p = p' ∧ b = b' := by
  have h1 := keyL_is hp hb
  have h2 := keyL_is hp' hb'
  rw [h] at h1
  have := ph_law.inj h1 h2
  unfold phV at this
  simp at this
  exact ⟨by omega, by omega⟩
theorem keyL_lit {p b : Nat} (hp : p ≤ 1000000) (hb : b < 256) : ∃ kl, kl = keyLP Try.prog 69 p b ∧ WideAt.IsKeyLit kl := by
  have h := keyL_is hp hb
  generalize keyLP Try.prog 69 p b = l at *
  exact ⟨l, rfl, ph_keyed.key h⟩
def MapP (w : World) (b n : Nat) (f : Nat → Nat → Option Nat) : Prop :=
  ∃ D : DataW Unit, w.ownsMap Try.prog 69 (plainElem Try.prog 3) b n D ∧ ∀ p c : Nat, p ≤ 1000000 → c < 256 → D.atKey (keyLP Try.prog 69 p c) (.lit (.int .i64 0)) = .lit (.int .i64 (((f p c).getD 0 : Nat) : Int)) ∧ Maps.has D (keyLP Try.prog 69 p c) = (f p c).isSome
section
variable {w w' : World} {b n : Nat} {f : Nat → Nat → Option Nat}
theorem MapP.keep (h : MapP w b n f) (hh : w'.heap[b]? = w.heap[b]?) : MapP w' b n f := by
  obtain ⟨D, ⟨es, clock, h1, h2⟩, hD⟩ := h
  exact ⟨D, ⟨es, clock, hh.trans h1, h2⟩, hD⟩
theorem MapP.lt (h : MapP w b n f) : b < w.heap.size := by
  obtain ⟨D, h1, _⟩ := h
  exact h1.lt
theorem MapP.made (w : World) : MapP (w.alloc (.map #[] 0)) w.heap.size 0 (fun _ _ => none) :=
  ⟨.map [], World.ownsMap_made w Try.prog 69 _, fun _ _ _ _ => ⟨rfl, rfl⟩⟩
theorem MapP.look_ok (h : MapP w b n f) (hz : (zeroValue 3).run Try.prog w = .ok (.int .i64 0) w) (p c : Nat) (hp : p ≤ 1000000) (hc : c < 256) :
    (Instr.lookup 67 (.map (some b)) (.agg #[.int .i64 (p : Int), .int .u8 (c : Int)]) true).run Try.prog w = .ok (.tuple #[.int .i64 (((f p c).getD 0 : Nat) : Int), .bool (f p c).isSome]) w := by
  obtain ⟨D, h1, hD⟩ := h
  obtain ⟨v, ps, hr, hv⟩ := h1.look_ok ph_keyed Try.underlying67 hz (plainElem_int Try.underlying3 (by rfl)) (keyL_is hp hc)
  rw [(hD p c hp hc).1] at hv
  obtain ⟨x, rfl, hx, _⟩ := plainElem_int_inv Try.underlying3 hv
  simp only [Prod.mk.injEq, DataW.lit.injEq, Lit.int.injEq, true_and] at hx
  unfold phV at hr
  rw [hr, (hD p c hp hc).2, ← hx.1]
theorem MapP.put (h : MapP w b n f) (hn : n < maxLen) (p c : Nat) (hp : p ≤ 1000000) (hc : c < 256) (x : Nat) (hx : x ≤ 1000000) :
    ∃ w', (Instr.mapUpdate 67 (.map (some b)) (.agg #[.int .i64 (p : Int), .int .u8 (c : Int)]) (.int .i64 (x : Int))).run Try.prog w = .ok () w' ∧ MapP w' b (n + 1) (fun q d => if q = p ∧ d = c then some x else f q d) ∧ w.grownBy w' (some b) := by
  obtain ⟨D, h1, hD⟩ := h
  obtain ⟨w', hr, h2, hg⟩ := h1.update ph_keyed Try.underlying67 hn (keyL_is hp hc) (plainElem_int Try.underlying3 (wf_i64p x hx))
  unfold phV at hr
  refine ⟨w', hr, ⟨_, h2, fun q d hq hd => ?_⟩, hg⟩
  dsimp only
  by_cases hy : q = p ∧ d = c
  · obtain ⟨rfl, rfl⟩ := hy
    obtain ⟨kl, hkl, hlit⟩ := keyL_lit hp hc
    rw [← hkl]
    clear hD hkl
    rw [if_pos ⟨rfl, rfl⟩, Maps.atKey_put_same h1.isMap hlit, Maps.has_put_same h1.isMap hlit]
    exact ⟨rfl, rfl⟩
  · have hne : keyLP Try.prog 69 q d ≠ keyLP Try.prog 69 p c := fun e => hy (keyL_inj hq hd hp hc e)
    rw [if_neg hy, Maps.atKey_put_other hne, Maps.has_put_other hne]
    exact hD q d hq hd
end
end Go.Proofs.Ytglcljlafioleaa

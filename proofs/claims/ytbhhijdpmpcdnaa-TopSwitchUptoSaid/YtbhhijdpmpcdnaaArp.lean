/-
  stripe.Play.
-/
import Derived.Test.YtbhhijdpmpcdnaaArd
import Derived.Test.YtbhhijdpmpcdnaaStructs
import Derived.BigQuiet
import Derived.Deep.QuietTactic
set_option linter.unusedVariables false
namespace Go.Proofs.Ytbhhijdpmpcdnaa
open Go.RowKit

theorem doMv_lt {f : Nat → Nat → Nat} (hf : ∀ a b, f a b < 256) (d : Nat) (z kind block : Int) (v : Nat) (hv : v < 256) : ∀ a b, (doMv d f z kind block v).f a b < 256 := by
  intro a b
  have hzt : zeroTo f block.toNat 0 (rowsD d) a b < 256 := by
    unfold zeroTo
    split
    · omega
    · exact hf a b
  unfold doMv
  repeat' split
  all_goals first
    | exact hf a b
    | exact hzt
    | exact renewTo_lt hf _ _ _ a b
    | exact writeD_lt hf z d _ v hv a b
def mvC (m : Int × Int × Nat) : List Value := [.int .i64 m.1, .int .i64 m.2.1, .int .u8 (m.2.2 : Int)]
def dnC (x : Nat × Nat) : List Value := [.int .i64 (x.1 : Int), .int .u8 (x.2 : Int)]
structure PlT where
  outs : List (Nat × Nat)
  f : Nat → Nat → Nat
  z : Int
/-- the first k moves, played -/
def playD (d : Nat) (l : List (Int × Int × Nat)) : Nat → PlT
  | 0 => ⟨[], fun _ _ => 0, -1⟩
  | k + 1 => match l[k]? with
    | none => playD d l k
    | some m => ⟨(playD d l k).outs ++ [((doMv d (playD d l k).f (playD d l k).z m.1 m.2.1 m.2.2).e, (doMv d (playD d l k).f (playD d l k).z m.1 m.2.1 m.2.2).v)], (doMv d (playD d l k).f (playD d l k).z m.1 m.2.1 m.2.2).f, (doMv d (playD d l k).f (playD d l k).z m.1 m.2.1 m.2.2).z⟩
theorem playD_next {d : Nat} {l : List (Int × Int × Nat)} {k : Nat} {m : Int × Int × Nat} (h : l[k]? = some m) : playD d l (k + 1) = ⟨(playD d l k).outs ++ [((doMv d (playD d l k).f (playD d l k).z m.1 m.2.1 m.2.2).e, (doMv d (playD d l k).f (playD d l k).z m.1 m.2.1 m.2.2).v)], (doMv d (playD d l k).f (playD d l k).z m.1 m.2.1 m.2.2).f, (doMv d (playD d l k).f (playD d l k).z m.1 m.2.1 m.2.2).z⟩ := by
  rw [playD, h]
theorem playD_lt {d : Nat} {l : List (Int × Int × Nat)} (hl : ∀ m ∈ l, m.2.2 < 256) : ∀ k a b, (playD d l k).f a b < 256
  | 0, a, b => by show 0 < 256; omega
  | k + 1, a, b => by
    cases h : l[k]? with
    | none => rw [playD, h]; exact playD_lt hl k a b
    | some m =>
      rw [playD_next h]
      exact doMv_lt (playD_lt hl k) d _ _ _ _ (hl m (List.mem_of_getElem? h)) a b
theorem playD_len (d : Nat) (l : List (Int × Int × Nat)) : ∀ k, (playD d l k).outs.length ≤ k
  | 0 => by simp [playD]
  | k + 1 => by
    have := playD_len d l k
    cases h : l[k]? with
    | none => rw [playD, h]; exact Nat.le_succ_of_le this
    | some m => rw [playD_next h]; simp; omega
theorem OwnK.onlyB {w w' : World} {base k hb d : Nat} {E : TypeId} {v : Value} {xss : List (List Value)} {gr : Nat → Nat} (h : OwnK w base E k v xss) (ho : OnlyB w w' hb d gr) (h1 : hb < base) (h2 : ∀ i, i < d → gr i < base) : OwnK w' base E k v xss := by
  refine ⟨h.1, h.2.1, ?_⟩
  rcases h.2.2 with h3 | ⟨g, cap, cur, e1, e2, e3, e4⟩
  · exact .inl h3
  · refine .inr ⟨g, cap, cur, e1, e2, ?_, e4⟩
    have hg : g < w.heap.size := by
      rcases Nat.lt_or_ge g w.heap.size with hlt | hge
      · exact hlt
      · rw [Array.getElem?_eq_none hge] at e3; cases e3
    rw [ho.block g hg (by omega) (fun i hi e => by have := h2 i hi; omega)]; exact e3
theorem OnlyB.below {w w' : World} {hb d B : Nat} {gr : Nat → Nat} (ho : OnlyB w w' hb d gr) (hB : B ≤ w.heap.size) (h1 : B ≤ hb) (h2 : ∀ i, i < d → B ≤ gr i) : Below B w w' := by
  exact ⟨ho.os, ho.tape, ho.output, ho.size, fun b hb2 => ho.block b (by omega) (by omega) (fun i hi e => by have := h2 i hi; omega)⟩
theorem TabD.kept {w w' : World} {b0 hb r d k base : Nat} {gr : Nat → Nat} {V : Value} {f : Nat → Nat → Nat} {row : Option Nat} (h : TabD w b0 hb r d k gr V f) (hg : w.grownBy w' row) (hr : ∀ q, row = some q → base ≤ q) (h1 : hb < base) (h2 : ∀ i, i < k → gr i < base) : TabD w' b0 hb r d k gr V f := by
  have hord := h.ord
  have hne : ∀ q, q < base → some q ≠ row := fun q hq e => by have := hr q e.symm; omega
  refine ⟨?_, h.col.kept hg (.inr fun e => ?_), fun i hi => (h.row i hi).kept hg (.inr fun e => ?_), h.ord, h.inj⟩
  · rw [hg.block hb h.lt (hne hb h1)]; exact h.box
  · exact hne b0 (by omega) e
  · exact hne (gr i) (h2 i hi) e
theorem add_secondS (p : Addr) (m : Nat) : p.add (m + 1) = ⟨(p.add m).block, (p.add m).off + 1, none⟩ := by
  by_cases h : m = 0
  · subst h; simp [Addr.add]
  · simp [Addr.add, h, Nat.add_assoc]
theorem add_thirdS (p : Addr) (m : Nat) : p.add (m + 2) = ⟨(p.add m).block, (p.add m).off + 2, none⟩ := by
  by_cases h : m = 0
  · subst h; simp [Addr.add]
  · simp [Addr.add, h, Nat.add_assoc]
theorem el_done : ElemK Try.prog 23 37 2 16 := ElemK.mk' (z := .agg #[.int .i64 0, .int .u8 0]) Try.underlying23 (by kernel_rfl) rfl (by omega)
theorem dn_form {w : World} {B m : Nat} {v : Value} {outs : List (Nat × Nat)} {T : TypeId} (h : OwnK w B T 2 v (outs.map dnC)) (hm : outs.length = m) : ∃ A c, v = .slice A m c := by
  obtain ⟨A, c, e⟩ := h.form
  exact ⟨A, c, by rw [e, List.length_map, hm]⟩
theorem dn_snoc (outs : List (Nat × Nat)) (e v : Nat) : outs.map dnC ++ [(#[Value.int .i64 (e : Int), Value.int .u8 (v : Int)] : Array Value).toList] = (outs ++ [(e, v)]).map dnC := by simp [dnC]
end Go.Proofs.Ytbhhijdpmpcdnaa

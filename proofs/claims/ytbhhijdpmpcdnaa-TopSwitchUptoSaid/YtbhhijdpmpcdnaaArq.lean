/-
  quipuref.Moves.
-/
import Derived.Test.YtbhhijdpmpcdnaaArm
import Derived.Test.YtbhhijdpmpcdnaaArp
set_option linter.unusedVariables false
namespace Go.Proofs.Ytbhhijdpmpcdnaa
open Go.RowKit

structure MvR where
  v : Nat
  e : Nat
  bl : List Nat
  z : Int
def mvR (d : Nat) (bl : List Nat) (z kind block : Int) (v : Nat) : MvR :=
  if kind < 1 ∨ 4 < kind then ⟨0, 6, bl, z⟩
  else if block < 0 ∨ (if kind = 3 ∨ kind = 4 then (d : Int) else 24) ≤ block then ⟨0, 2, bl, z⟩
  else if kind = 2 then ⟨bl.getD block.toNat 0, 0, bl, z⟩
  else if kind = 3 then (if 0 ≤ z then ⟨0, 7, bl, z⟩ else ⟨0, 0, bl, block⟩)
  else if kind = 4 then (if block = z then ⟨0, 0, bl, -1⟩ else ⟨0, 7, bl, z⟩)
  else ⟨0, 0, bl.set block.toNat v, z⟩
structure PlR where
  outs : List (Nat × Nat)
  bl : List Nat
  z : Int
def playR (d : Nat) (l : List (Int × Int × Nat)) : Nat → PlR
  | 0 => ⟨[], List.replicate 24 0, -1⟩
  | k + 1 => match l[k]? with
    | none => playR d l k
    | some m => ⟨(playR d l k).outs ++ [((mvR d (playR d l k).bl (playR d l k).z m.1 m.2.1 m.2.2).e, (mvR d (playR d l k).bl (playR d l k).z m.1 m.2.1 m.2.2).v)], (mvR d (playR d l k).bl (playR d l k).z m.1 m.2.1 m.2.2).bl, (mvR d (playR d l k).bl (playR d l k).z m.1 m.2.1 m.2.2).z⟩
theorem playR_next {d : Nat} {l : List (Int × Int × Nat)} {k : Nat} {m : Int × Int × Nat} (h : l[k]? = some m) : playR d l (k + 1) = ⟨(playR d l k).outs ++ [((mvR d (playR d l k).bl (playR d l k).z m.1 m.2.1 m.2.2).e, (mvR d (playR d l k).bl (playR d l k).z m.1 m.2.1 m.2.2).v)], (mvR d (playR d l k).bl (playR d l k).z m.1 m.2.1 m.2.2).bl, (mvR d (playR d l k).bl (playR d l k).z m.1 m.2.1 m.2.2).z⟩ := by
  rw [playR, h]
theorem playR_len (d : Nat) (l : List (Int × Int × Nat)) : ∀ k, (playR d l k).outs.length ≤ k
  | 0 => by simp [playR]
  | k + 1 => by
    have := playR_len d l k
    cases h : l[k]? with
    | none => rw [playR, h]; exact Nat.le_succ_of_le this
    | some m => rw [playR_next h]; simp; omega
theorem ArrB.below {w w' : World} {base ab g : Nat} {bl : List Nat} {z : Int} (h : ArrB w base ab g bl z) (hB : Below w.heap.size w w') : ArrB w' base ab g bl z :=
  ⟨(hB.block ab ((Array.getElem?_eq_some_iff.1 h.box).1)).trans h.box, h.row.below hB (Nat.le_refl _), h.ne⟩
theorem ArrB.kept {w w' : World} {base ab g : Nat} {bl : List Nat} {z : Int} {row : Option Nat} (h : ArrB w base ab g bl z) (hg : w.grownBy w' row) (h1 : row ≠ some ab) (h2 : row ≠ some g) : ArrB w' base ab g bl z :=
  ⟨(hg.block ab ((Array.getElem?_eq_some_iff.1 h.box).1) (fun e => h1 e.symm)).trans h.box, h.row.kept hg (.inr fun e => h2 e.symm), h.ne⟩
theorem OwnK.heapAt {w w' : World} {base k : Nat} {E : TypeId} {v : Value} {xss : List (List Value)} (h : OwnK w base E k v xss) (hh : ∀ g, v.ownBlock = some g → w'.heap[g]? = w.heap[g]?) : OwnK w' base E k v xss := by
  refine ⟨h.1, h.2.1, ?_⟩
  rcases h.2.2 with h3 | ⟨g, cap, cur, e1, e2, e3, e4⟩
  · exact .inl h3
  · exact .inr ⟨g, cap, cur, e1, e2, by rw [hh g (by rw [e1]; rfl)]; exact e3, e4⟩
theorem ArrB.heapAt {w w' : World} {base ab g : Nat} {bl : List Nat} {z : Int} (h : ArrB w base ab g bl z) (h1 : w'.heap[ab]? = w.heap[ab]?) (h2 : w'.heap[g]? = w.heap[g]?) : ArrB w' base ab g bl z := by
  refine ⟨h1.trans h.box, ⟨h.row.1, ?_⟩, h.ne⟩
  rcases h.row.2 with h3 | ⟨g', cap, cur, e1, e2, e3, e4⟩
  · exact .inl h3
  · injection e1 with e1
    injection e1 with e1
    injection e1 with e1
    subst e1
    exact .inr ⟨g, cap, cur, by simp_all, e2, by rw [h2]; exact e3, e4⟩
theorem mv_after {wo W2 w3 : World} {ab g : Nat} {T : TypeId} (E V : Value) (hW2 : Below wo.heap.size wo W2) (hs2 : W2.heap.size = wo.heap.size + 2) (hD2 : W2.heap[wo.heap.size + 1]? = some (.cells #[.int .i64 0, .int .u8 0] T (0, 0))) (o1 : w3.os = W2.os) (o2 : w3.tape = W2.tape) (o3 : w3.output = W2.output) (o4 : w3.heap.size = W2.heap.size) (o5 : ∀ b, b ≠ ab → b ≠ g → w3.heap[b]? = W2.heap[b]?) (hab : ab < wo.heap.size) (hg : g < wo.heap.size) :
    w3.cell? ⟨wo.heap.size + 1, 1, none⟩ = some (.int .u8 0) ∧ w3.frozen? ⟨wo.heap.size + 1, 1, none⟩ = false ∧ (w3.setCell ⟨wo.heap.size + 1, 1, none⟩ V).cell? ⟨wo.heap.size + 1, 0, none⟩ = some (.int .i64 0) ∧ (w3.setCell ⟨wo.heap.size + 1, 1, none⟩ V).frozen? ⟨wo.heap.size + 1, 0, none⟩ = false ∧
    ((w3.setCell ⟨wo.heap.size + 1, 1, none⟩ V).setCell ⟨wo.heap.size + 1, 0, none⟩ E).cell? ⟨wo.heap.size + 1, 0, none⟩ = some E ∧ ((w3.setCell ⟨wo.heap.size + 1, 1, none⟩ V).setCell ⟨wo.heap.size + 1, 0, none⟩ E).cell? ⟨wo.heap.size + 1, 1, none⟩ = some V ∧ ((w3.setCell ⟨wo.heap.size + 1, 1, none⟩ V).setCell ⟨wo.heap.size + 1, 0, none⟩ E).heap.size = wo.heap.size + 2 ∧
    (∀ b, b < wo.heap.size → ((w3.setCell ⟨wo.heap.size + 1, 1, none⟩ V).setCell ⟨wo.heap.size + 1, 0, none⟩ E).heap[b]? = w3.heap[b]?) ∧ (∀ b, b < wo.heap.size → b ≠ ab → b ≠ g → ((w3.setCell ⟨wo.heap.size + 1, 1, none⟩ V).setCell ⟨wo.heap.size + 1, 0, none⟩ E).heap[b]? = wo.heap[b]?) ∧
    (∀ B, B ≤ wo.heap.size → B ≤ ab → B ≤ g → Below B wo ((w3.setCell ⟨wo.heap.size + 1, 1, none⟩ V).setCell ⟨wo.heap.size + 1, 0, none⟩ E)) := by
  have h3 : w3.heap[wo.heap.size + 1]? = some (.cells #[.int .i64 0, .int .u8 0] T (0, 0)) := (o5 _ (by omega) (by omega)).trans hD2
  have hk : ∀ b, b < wo.heap.size → ((w3.setCell ⟨wo.heap.size + 1, 1, none⟩ V).setCell ⟨wo.heap.size + 1, 0, none⟩ E).heap[b]? = w3.heap[b]? := fun b hb => by
    rw [Below.heap_setCell _ _ _ b (by show b ≠ wo.heap.size + 1; omega), Below.heap_setCell _ _ _ b (by show b ≠ wo.heap.size + 1; omega)]
  have hk2 : ∀ b, b < wo.heap.size → b ≠ ab → b ≠ g → ((w3.setCell ⟨wo.heap.size + 1, 1, none⟩ V).setCell ⟨wo.heap.size + 1, 0, none⟩ E).heap[b]? = wo.heap[b]? := fun b hb h1 h2 => by
    rw [hk b hb, o5 b h1 h2, hW2.block b hb]
  have hv : (w3.setCell ⟨wo.heap.size + 1, 1, none⟩ V).heap[wo.heap.size + 1]? = some (.cells #[.int .i64 0, V] T (0, 0)) := by simp [World.setCell, Array.getElem?_modify, h3]
  have he : ((w3.setCell ⟨wo.heap.size + 1, 1, none⟩ V).setCell ⟨wo.heap.size + 1, 0, none⟩ E).heap[wo.heap.size + 1]? = some (.cells #[E, V] T (0, 0)) := by
    generalize w3.setCell ⟨wo.heap.size + 1, 1, none⟩ V = wv at *
    simp [World.setCell, Array.getElem?_modify, hv]
  refine ⟨by simp [World.cell?, h3], by simp [World.frozen?, h3], by simp only [World.cell?, hv]; rfl, by simp only [World.frozen?, hv]; rfl, by simp only [World.cell?, he]; rfl, by simp only [World.cell?, he]; rfl, by simp [o4, hs2], hk, hk2, fun B h1 h2 h4 => ⟨o1.trans hW2.os, o2.trans hW2.tape, o3.trans hW2.output, by simp [o4, hs2], fun b hb => hk2 b (by omega) (by omega) (by omega)⟩⟩
end Go.Proofs.Ytbhhijdpmpcdnaa

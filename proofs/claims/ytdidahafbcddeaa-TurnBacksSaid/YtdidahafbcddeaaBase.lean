/-
  General words for walks: a slice value that reads as a list of one-cell values. Nothing of any program stands here.
-/
import Derived.WalkKit
import Derived.Below
import Derived.Laws.OwnMore
import Derived.Deep.AppendLies
import Derived.Deep.Draws
import Derived.Lib.Hide
import Derived.Outline
import Derived.WalkSpells
import Derived.WalkLawsBesides
set_option linter.unusedVariables false
namespace Go.Proofs.Ytdidahafbcddeaa
open Go.RowKit

theorem block_of_add (a : Addr) (n : Nat) : (a.add n).block = a.block := by unfold Addr.add; split <;> rfl
theorem add_of_add (a : Addr) (i j : Nat) : (a.add i).add j = a.add (i + j) := by
  unfold Addr.add
  by_cases hi : i = 0 <;> by_cases hj : j = 0 <;> simp [hi, hj, Nat.add_assoc]

/-- The slice value with address A and n elements holds the one-cell values xs (n of them), all below block B. -/
structure Reads (w : World) (B : Nat) (A : Option Addr) (n : Nat) (xs : List Value) : Prop where
  len : xs.length = n
  cells : 0 < n → ∃ ad, A = some ad ∧ ad.block < B ∧ ∀ j u, xs[j]? = some u → w.cell? (ad.add j) = some u

section
variable {w w' : World} {B B' n : Nat} {A : Option Addr} {xs : List Value}
theorem Reads.none_ : Reads w B A 0 [] := ⟨rfl, fun h => absurd h (by omega)⟩
theorem Reads.at_ {k : Nat} (h : Reads w B A n xs) (hk : k < n) : ∃ ad u, A = some ad ∧ ad.block < B ∧ xs[k]? = some u ∧ w.cell? (ad.add k) = some u := by
  obtain ⟨ad, e, hb, hc⟩ := h.cells (by omega)
  have hl : k < xs.length := by have := h.len; omega
  exact ⟨ad, xs[k], e, hb, List.getElem?_eq_getElem hl, hc k _ (List.getElem?_eq_getElem hl)⟩
theorem Reads.keep (h : Reads w B A n xs) (hk : ∀ p : Addr, p.block < B → w'.cell? p = w.cell? p) : Reads w' B A n xs :=
  ⟨h.len, fun hn => by
    obtain ⟨ad, e, hb, hc⟩ := h.cells hn
    exact ⟨ad, e, hb, fun j u hu => (hk _ (by rw [block_of_add]; exact hb)).trans (hc j u hu)⟩⟩
theorem Reads.more (h : Reads w B A n xs) (hB : B ≤ B') : Reads w B' A n xs :=
  ⟨h.len, fun hn => by
    obtain ⟨ad, e, hb, hc⟩ := h.cells hn
    exact ⟨ad, e, by omega, hc⟩⟩
theorem Reads.below (h : Reads w B A n xs) (hb : Below B w w') : Reads w' B A n xs := h.keep fun _ hp => hb.cell hp
theorem Reads.drew (h : Reads w B A n xs) : Reads w.drew B A n xs := ⟨h.len, h.cells⟩
theorem Reads.drewN (h : Reads w B A n xs) (k : Nat) : Reads (w.drewN k) B A n xs := ⟨h.len, h.cells⟩
theorem Reads.alloc (h : Reads w B A n xs) (hB : B ≤ w.heap.size) (o : Obj) : Reads (w.alloc o) B A n xs := h.keep fun p hp => World.cell?_alloc_lt w o p (by omega)
theorem Reads.setCell (h : Reads w B A n xs) {p : Addr} (hB : B ≤ p.block) (u : Value) : Reads (w.setCell p u) B A n xs :=
  h.keep fun q hq => World.cell?_setCell_other w p q u (fun e => by subst e; omega)
theorem Reads.grown (h : Reads w B A n xs) {row : Option Nat} (hg : w.grownBy w' row) (hB : B ≤ w.heap.size) (hr : ∀ g, row = some g → B ≤ g) : Reads w' B A n xs :=
  h.keep fun p hp => World.cell?_of_block (hg.block p.block (by omega) (fun e => by have := hr _ e.symm; omega))
end

/-- An integer slice: its elements. -/
abbrev vi (k : IntKind) (l : List Int) : List Value := l.map (Value.int k)
abbrev vn (k : IntKind) (l : List Nat) : List Value := l.map fun x : Nat => Value.int k (x : Int)
abbrev vb (l : List Bool) : List Value := l.map Value.bool

theorem Reads.int_at {w : World} {B n : Nat} {A : Option Addr} {K : IntKind} {l : List Int} (h : Reads w B A n (vi K l)) {k : Nat} (hk : k < n) :
    ∃ ad x, A = some ad ∧ ad.block < B ∧ l[k]? = some x ∧ w.cell? (ad.add k) = some (.int K x) := by
  obtain ⟨ad, u, e, hb, hx, hc⟩ := h.at_ hk
  rw [List.getElem?_map] at hx
  obtain ⟨x, hx', rfl⟩ := Option.map_eq_some_iff.1 hx
  exact ⟨ad, x, e, hb, hx', hc⟩
theorem Reads.bool_at {w : World} {B n : Nat} {A : Option Addr} {l : List Bool} (h : Reads w B A n (vb l)) {k : Nat} (hk : k < n) :
    ∃ ad x, A = some ad ∧ ad.block < B ∧ l[k]? = some x ∧ w.cell? (ad.add k) = some (.bool x) := by
  obtain ⟨ad, u, e, hb, hx, hc⟩ := h.at_ hk
  rw [List.getElem?_map] at hx
  obtain ⟨x, hx', rfl⟩ := Option.map_eq_some_iff.1 hx
  exact ⟨ad, x, e, hb, hx', hc⟩
theorem Reads.nat_at {w : World} {B n : Nat} {A : Option Addr} {K : IntKind} {l : List Nat} (h : Reads w B A n (vn K l)) {k : Nat} (hk : k < n) :
    ∃ ad x, A = some ad ∧ ad.block < B ∧ l[k]? = some x ∧ w.cell? (ad.add k) = some (.int K (x : Int)) := by
  obtain ⟨ad, u, e, hb, hx, hc⟩ := h.at_ hk
  rw [List.getElem?_map] at hx
  obtain ⟨x, hx', rfl⟩ := Option.map_eq_some_iff.1 hx
  exact ⟨ad, x, e, hb, hx', hc⟩
theorem Reads.nat_len {w : World} {B n : Nat} {A : Option Addr} {K : IntKind} {l : List Nat} (h : Reads w B A n (vn K l)) : l.length = n := by
  have := h.len; rwa [List.length_map] at this
theorem Reads.int_len {w : World} {B n : Nat} {A : Option Addr} {K : IntKind} {l : List Int} (h : Reads w B A n (vi K l)) : l.length = n := by
  have := h.len; rwa [List.length_map] at this
theorem Reads.bool_len {w : World} {B n : Nat} {A : Option Addr} {l : List Bool} (h : Reads w B A n (vb l)) : l.length = n := by
  have := h.len; rwa [List.length_map] at this

theorem take_next {α : Type} {l : List α} {k : Nat} {x : α} (h : l[k]? = some x) : l.take (k + 1) = l.take k ++ [x] := by
  obtain ⟨hk, rfl⟩ := List.getElem?_eq_some_iff.1 h
  exact List.take_succ_eq_append_getElem hk
theorem drop_next {α : Type} {l : List α} {k : Nat} {x : α} (h : l[k]? = some x) : l.drop k = x :: l.drop (k + 1) := by
  obtain ⟨hk, rfl⟩ := List.getElem?_eq_some_iff.1 h
  exact List.drop_eq_getElem_cons hk
theorem mem_at {α : Type} {l : List α} {k : Nat} {x : α} (h : l[k]? = some x) : x ∈ l := List.mem_of_getElem? h

/-- returned v, and the world is as it was -/
def Ret (w : World) (v : Value) (e : Ending) (w' : World) : Prop := e = .returned v ∧ w = w'
/-- returned v; of the world only draws were made -/
def RetQ (w : World) (v : Value) (e : Ending) (w' : World) : Prop := e = .returned v ∧ ∃ m, w' = w.drewN m
/-- what a law's call comes to -/
def LawTrue (w : World) (e : Ending) (w' : World) : Prop := e = .returned (.bool true) ∧ Below w.heap.size w w'
theorem below_drewN {B : Nat} {a w : World} (h : Below B a w) (n : Nat) : Below B a (w.drewN n) := ⟨h.os, h.tape, h.output, h.size, h.block⟩
theorem LawTrue.same (w : World) : LawTrue w (.returned (.bool true)) w := ⟨rfl, Below.refl _ _⟩
theorem LawTrue.drewN (w : World) (m : Nat) : LawTrue w (.returned (.bool true)) (w.drewN m) := ⟨rfl, below_drewN (Below.refl _ _) m⟩
theorem ret_i {k : IntKind} {a b : Int} (h : a = b) : Ending.returned (.int k a) = .returned (.int k b) := by rw [h]
theorem ret_b {a b : Bool} (h : a = b) : Ending.returned (.bool a) = .returned (.bool b) := by rw [h]
theorem ret_ii {k k' : IntKind} {a b a' b' : Int} (h : (a, a') = (b, b')) : Ending.returned (.tuple #[.int k a, .int k' a']) = .returned (.tuple #[.int k b, .int k' b']) := by
  simp only [Prod.mk.injEq] at h; rw [h.1, h.2]

end Go.Proofs.Ytdidahafbcddeaa

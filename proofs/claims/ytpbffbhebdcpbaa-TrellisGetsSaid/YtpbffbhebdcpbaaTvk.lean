/-
  The words by which trellis.Get is walked: the maps' paths in memory, what is still to come.
-/
import Derived.Test.YtpbffbhebdcpbaaTvb
import Derived.Test.YtpbffbhebdcpbaaTvm
import Derived.Test.YtpbffbhebdcpbaaCh
set_option linter.unusedVariables false
namespace Go.Proofs.Ytpbffbhebdcpbaa
open Go.RowKit

/-- how many states are still to come -/
def cg (g : Bool → Bool → Bool) : Nat := tb (g false false) + tb (g false true) + tb (g true false) + tb (g true true)
theorem cg_hit {g : Bool → Bool → Bool} {x y : Bool} (h : g x y = true) : cg (gHit g x y) + 1 = cg g := by
  unfold cg gHit
  cases x <;> cases y <;> simp [h, tb] <;> omega
theorem cg_le (g : Bool → Bool → Bool) : cg g ≤ 4 := by
  unfold cg
  have := tb_le (g false false)
  have := tb_le (g false true)
  have := tb_le (g true false)
  have := tb_le (g true true)
  omega
theorem Own.cap {w : World} {base : Nat} {E : TypeId} {A : Option Addr} {n c : Nat} {xs : List Value} (h : Own w base E (.slice A n c) xs) : n ≤ c := by
  rcases h.2 with ⟨h1, h2⟩ | ⟨g, cap, cur, h1, _, _, h2, _⟩
  · injection h1 with _ h1 h3; omega
  · injection h1 with _ h1 h3
    have := (show xs.length = n from h.len)
    omega
def RP (w : World) (B k : Nat) : Option PV → Option (List Bool × Nat) → Prop
  | none, none => True
  | some v, some u => Own w B 4 (.slice v.1 v.2.1 v.2.2.1) (vb u.1) ∧ v.2.1 = k ∧ v.2.2.2 = u.2 ∧ u.2 ≤ 2 * k ∧ u.1.length = k
  | _, _ => False
def RepT (w : World) (B k : Nat) (f : PF2) (F : SF) : Prop := ∀ x y, RP w B k (f x y) (F x y)
/-- all rows lie as they lay -/
def KR (w w' : World) : Prop := ∀ (b : Nat) (cs : Array Value) (E : TypeId) (m : Nat × Nat), w.heap[b]? = some (Obj.cells cs E m) → w'.heap[b]? = some (Obj.cells cs E m)
section
variable {w w' w0 : World} {B k n : Nat} {f : PF2} {F : SF}
theorem KR.of_below (h : Below w.heap.size w w') : KR w w' := fun b cs E m hb => (h.block b (Array.getElem?_eq_some_iff.1 hb).1).trans hb
theorem KR.of_grown {m : Nat} (h : w.grownBy w' (some m)) (hm : ∀ cs E z, w.heap[m]? ≠ some (Obj.cells cs E z)) : KR w w' := fun b cs E z hb =>
  (h.block b (Array.getElem?_eq_some_iff.1 hb).1 (fun e => by injection e with e; subst e; exact hm _ _ _ hb)).trans hb
theorem RP.kr {a : Option PV} {u : Option (List Bool × Nat)} (h : RP w B k a u) (hk : KR w w') : RP w' B k a u := by
  cases a <;> cases u <;> try exact h
  obtain ⟨h1, h2⟩ := h
  refine ⟨h1.heapAt fun g hg => ?_, h2⟩
  obtain ⟨cur, hc⟩ := h1.ty hg
  rw [hc, hk _ _ _ _ hc]
theorem RepT.kr (h : RepT w B k f F) (hk : KR w w') : RepT w' B k f F := fun x y => (h x y).kr hk
theorem RepT.put {v : PV} {u : List Bool × Nat} (h : RepT w B k f F) (x y : Bool) (hv : RP w B k (some v) (some u)) : RepT w B k (pfPut f x y v) (sfPut F x y u) := by
  intro a b
  unfold pfPut sfPut
  by_cases e : a = x ∧ b = y
  · rw [if_pos e, if_pos e]; exact hv
  · rw [if_neg e, if_neg e]; exact h a b
theorem RepT.none_ (h : RepT w B k f F) {x y : Bool} (hf : f x y = none) : F x y = none := by
  have := h x y
  rw [hf] at this
  cases hF : F x y with
  | none => rfl
  | some u => rw [hF] at this; exact this.elim
theorem RepT.some_ (h : RepT w B k f F) {x y : Bool} {v : PV} (hf : f x y = some v) : ∃ p, F x y = some (p, v.2.2.2) ∧ Own w B 4 (.slice v.1 v.2.1 v.2.2.1) (vb p) ∧ v.2.1 = k ∧ v.2.2.2 ≤ 2 * k ∧ p.length = k := by
  have := h x y
  rw [hf] at this
  cases hF : F x y with
  | none => rw [hF] at this; exact this.elim
  | some u =>
    rw [hF] at this
    obtain ⟨h1, h2, h3, h4, h5⟩ := this
    exact ⟨u.1, by rw [h3], h1, h2, by rw [h3]; exact h4, h5⟩
theorem RepT.iff (h : RepT w B k f F) (x y : Bool) : F x y ≠ none ↔ (f x y).isSome = true := by
  cases hf : f x y with
  | none => simp [h.none_ hf]
  | some v => obtain ⟨p, hp, _⟩ := h.some_ hf; simp [hp]
theorem RepT.start (w : World) (B : Nat) : RepT w B 0 (pfPut (fun _ _ => none) false false pv0) sf0 := by
  intro x y
  unfold pfPut sf0
  cases x <;> cases y
  · refine ⟨Own.nil _ _ _, rfl, rfl, Nat.zero_le _, rfl⟩
  · exact trivial
  · exact trivial
  · exact trivial
theorem RepT.empty (w : World) (B k : Nat) : RepT w B k (fun _ _ => none) sfN := fun _ _ => trivial
theorem pf_start_sf : True := trivial
end
def Dg (n k : Nat) (g : Bool → Bool → Bool) : Bool → Bool → Bool → Prop := fun x y z => g x y = false ∧ (k < n ∨ z = false)
def DJ (n k : Nat) (g : Bool → Bool → Bool) (s0 s1 : Bool) (j : Nat) : Bool → Bool → Bool → Prop := fun x y z => Dg n k g x y z ∨ (x = s0 ∧ y = s1 ∧ tb z < j)
/-- a round under way -/
structure LT (w wr : World) (L : List Bool) (k bm r cap cnt b8 capN : Nat) (f h : PF2) (F H : SF) (g : Bool → Bool → Bool) (D : Bool → Bool → Bool → Prop) : Prop where
  rng : RngT wr bm r cap f g cnt
  nxt : MapT wr b8 capN h
  cur : RepT wr w.heap.size k f F
  rep : RepT wr w.heap.size (k + 1) h H
  pok : POK L k F D H
  bel : Below w.heap.size w wr
  ne : b8 ≠ bm
  rg : w.heap.size ≤ r
  mg : w.heap.size ≤ b8
section
variable {w wr W : World} {L : List Bool} {n k bm r cap cnt b8 capN : Nat} {f h : PF2} {F H : SF} {g : Bool → Bool → Bool} {D D' : Bool → Bool → Bool → Prop}
theorem LT.keep (h0 : LT w wr L k bm r cap cnt b8 capN f h F H g D) (hb : Below wr.heap.size wr W) : LT w W L k bm r cap cnt b8 capN f h F H g D :=
  ⟨h0.rng.keep (hb.block _ h0.rng.owns.lt) (hb.block _ h0.rng.lt), h0.nxt.keep (hb.block _ h0.nxt.lt), h0.cur.kr (.of_below hb), h0.rep.kr (.of_below hb), h0.pok, h0.bel.trans (hb.mono h0.bel.size), h0.ne, h0.rg, h0.mg⟩
theorem LT.congr (h0 : LT w wr L k bm r cap cnt b8 capN f h F H g D) (hD : ∀ x y z, F x y ≠ none → (D' x y z ↔ D x y z)) : LT w wr L k bm r cap cnt b8 capN f h F H g D' :=
  ⟨h0.rng, h0.nxt, h0.cur, h0.rep, h0.pok.congr hD, h0.bel, h0.ne, h0.rg, h0.mg⟩
theorem LT.pokk (h0 : LT w wr L k bm r cap cnt b8 capN f h F H g D) (hp : POK L k F D' H) : LT w wr L k bm r cap cnt b8 capN f h F H g D' :=
  ⟨h0.rng, h0.nxt, h0.cur, h0.rep, hp, h0.bel, h0.ne, h0.rg, h0.mg⟩
theorem LT.put (h0 : LT w wr L k bm r cap cnt b8 capN f h F H g D) {x y : Bool} {v : PV} {u : List Bool × Nat} (hm : MapT W b8 (capN + 1) (pfPut h x y v)) (hg : wr.grownBy W (some b8)) (hv : RP wr w.heap.size (k + 1) (some v) (some u)) (hp : POK L k F D' (sfPut H x y u)) :
    LT w W L k bm r cap cnt b8 (capN + 1) f (pfPut h x y v) F (sfPut H x y u) g D' := by
  have hk : KR wr W := .of_grown hg fun cs E z => h0.nxt.noCells
  have hnr : b8 ≠ r := h0.rng.notB h0.nxt
  refine ⟨h0.rng.keep (hg.block _ h0.rng.owns.lt (fun e => by injection e with e; exact h0.ne e.symm)) (hg.block _ h0.rng.lt (fun e => by injection e with e; exact hnr e.symm)), hm, h0.cur.kr hk, (h0.rep.put x y hv).kr hk, hp, ?_, h0.ne, h0.rg, h0.mg⟩
  exact h0.bel.grown hg h0.bel.size (fun j hj => by injection hj with hj; have := h0.mg; omega)
/-- a state has come -/
theorem LT.next (h0 : LT w wr L k bm r cap cnt b8 capN f h F H g (Dg n k g)) {s0 s1 : Bool} {cnt' : Nat} (hr : RngT W bm r cap f (gHit g s0 s1) cnt') (hg : wr.grownBy W (some r)) (hs : g s0 s1 = true) :
    LT w W L k bm r cap cnt' b8 capN f h F H (gHit g s0 s1) (DJ n k g s0 s1 0) := by
  have hnr : b8 ≠ r := h0.rng.notB h0.nxt
  have hk : KR wr W := .of_grown hg fun cs E z e => by
    obtain ⟨D, left, ⟨es, clock, since, seen, c0, hb, F, hs, hD, hr, rest⟩, hx⟩ := h0.rng
    rw [hr] at e; injection e with e; cases e
  refine ⟨hr, h0.nxt.keep (hg.block _ h0.nxt.lt (fun e => by injection e with e; exact hnr e)), h0.cur.kr hk, h0.rep.kr hk, h0.pok.congr (fun x y z _ => ?_), ?_, h0.ne, h0.rg, h0.mg⟩
  · unfold DJ; simp
  · exact h0.bel.grown hg h0.bel.size (fun j hj => by injection hj with hj; have := h0.rg; omega)
/-- both bits, or the one, are done -/
theorem LT.done {s0 s1 : Bool} {j : Nat} (h0 : LT w wr L k bm r cap cnt b8 capN f h F H (gHit g s0 s1) (DJ n k g s0 s1 j)) (hj : (k < n ∧ j = 2) ∨ (¬ k < n ∧ j = 1)) (hs : g s0 s1 = true) :
    LT w wr L k bm r cap cnt b8 capN f h F H (gHit g s0 s1) (Dg n k (gHit g s0 s1)) := by
  refine h0.congr fun x y z _ => ?_
  unfold DJ Dg gHit
  by_cases e : x = s0 ∧ y = s1
  · obtain ⟨rfl, rfl⟩ := e
    rw [hs]
    cases z <;> simp [tb] <;> omega
  · have h2 : (x == s0 && y == s1) = false := by
      cases h5 : (x == s0 && y == s1)
      · rfl
      · simp at h5; exact absurd h5 e
    rw [h2]
    simp only [Bool.not_false, Bool.and_true]
    exact ⟨.inl, fun h => h.resolve_right fun h => e ⟨h.1, h.2.1⟩⟩
theorem DJ_next {s0 s1 b : Bool} {j : Nat} (hb : tb b = j) (x y z : Bool) : DJ n k g s0 s1 (j + 1) x y z ↔ (DJ n k g s0 s1 j x y z ∨ (x = s0 ∧ y = s1 ∧ z = b)) := by
  unfold DJ
  have : tb z < j + 1 ↔ (tb z < j ∨ z = b) := by
    subst hb
    cases z <;> cases b <;> simp [tb]
  rw [this]
  constructor
  · rintro (h | ⟨h1, h2, h3 | h3⟩)
    · exact .inl (.inl h)
    · exact .inl (.inr ⟨h1, h2, h3⟩)
    · exact .inr ⟨h1, h2, h3⟩
  · rintro ((h | ⟨h1, h2, h3⟩) | ⟨h1, h2, h3⟩)
    · exact .inl h
    · exact .inr ⟨h1, h2, .inl h3⟩
    · exact .inr ⟨h1, h2, .inr h3⟩
theorem LT.begin (hr : RngT wr bm r cap f (fun x y => (f x y).isSome) cnt) (hn : MapT wr b8 0 (fun _ _ => none)) (hc : RepT wr w.heap.size k f F) (hb : Below w.heap.size w wr) (hne : b8 ≠ bm) (h1 : w.heap.size ≤ r) (h2 : w.heap.size ≤ b8) :
    LT w wr L k bm r cap cnt b8 0 f (fun _ _ => none) F sfN (fun x y => (f x y).isSome) (Dg n k fun x y => (f x y).isSome) := by
  refine ⟨hr, hn, hc, RepT.empty _ _ _, POK.start.congr fun x y z hF => ?_, hb, hne, h1, h2⟩
  have := (hc.iff x y).1 hF
  unfold Dg
  simp [this]
theorem LT.end_ (h0 : LT w wr L k bm r cap cnt b8 capN f h F H g (Dg n k g)) (hM : MapOK L n k F) (hg : ∀ x y, g x y = false) : MapOK L n (k + 1) H :=
  h0.pok.finish hM fun x y z _ => by unfold Dg; simp [hg x y]
theorem stC_le (s0 s1 b : Bool) : stC L k s0 s1 b ≤ 2 := by
  unfold stC pairD
  exact Nat.add_le_add (tb_le _) (tb_le _)
end
end Go.Proofs.Ytpbffbhebdcpbaa

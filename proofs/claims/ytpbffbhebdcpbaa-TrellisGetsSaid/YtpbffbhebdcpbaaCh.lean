/-
  Which blocks changed; a box told by its list of values. Over any program.
-/
import Derived.Test.YtpbffbhebdcpbaaQueue
import Derived.Test.YtpbffbhebdcpbaaStore
import Derived.Test.YtpbffbhebdcpbaaQuiet
set_option linter.unusedVariables false
namespace Go.Proofs.Ytpbffbhebdcpbaa
open Go.RowKit

/-- of the blocks that were there only those of F may have changed -/
structure Ch (w w' : World) (F : Nat → Prop) : Prop where
  os : w'.os = w.os
  tape : w'.tape = w.tape
  output : w'.output = w.output
  size : w.heap.size ≤ w'.heap.size
  block : ∀ b, b < w.heap.size → ¬ F b → w'.heap[b]? = w.heap[b]?
section
variable {w w' w'' : World} {F G : Nat → Prop}
theorem Ch.refl (w : World) (F : Nat → Prop) : Ch w w F := ⟨rfl, rfl, rfl, Nat.le_refl _, fun _ _ _ => rfl⟩
theorem Ch.trans (h : Ch w w' F) (k : Ch w' w'' G) (hG : ∀ b, b < w.heap.size → G b → F b) : Ch w w'' F :=
  ⟨k.os.trans h.os, k.tape.trans h.tape, k.output.trans h.output, Nat.le_trans h.size k.size, fun b hb hn => (k.block b (Nat.lt_of_lt_of_le hb h.size) (fun e => hn (hG b hb e))).trans (h.block b hb hn)⟩
theorem Ch.imp (h : Ch w w' F) (hG : ∀ b, b < w.heap.size → F b → G b) : Ch w w' G := ⟨h.os, h.tape, h.output, h.size, fun b hb hn => h.block b hb (fun e => hn (hG b hb e))⟩
theorem Ch.of_grown {row : Option Nat} (h : w.grownBy w' row) : Ch w w' (fun b => row = some b) := ⟨h.os, h.tape, h.output, h.size, fun b hb hn => h.block b hb (fun e => hn e.symm)⟩
theorem Ch.of_below (h : Below w.heap.size w w') (F : Nat → Prop) : Ch w w' F := ⟨h.os, h.tape, h.output, h.size, fun b hb _ => h.block b hb⟩
theorem Ch.below {B : Nat} (h : Ch w w' F) (hB : B ≤ w.heap.size) (hF : ∀ b, b < w.heap.size → F b → B ≤ b) : Below B w w' :=
  ⟨h.os, h.tape, h.output, h.size, fun b hb => h.block b (by omega) (fun e => by have := hF b (by omega) e; omega)⟩
theorem Ch.setCell (h : Ch w w' F) (b j : Nat) (u : Value) (hb : b < w.heap.size → F b) : Ch w (w'.setCell ⟨b, j, none⟩ u) F :=
  ⟨h.os, h.tape, h.output, by simpa using h.size, fun c hc hn => by
    rw [Below.heap_setCell w' _ _ c (fun e => hn (by subst e; exact hb hc))]
    exact h.block c hc hn⟩
theorem Ch.alloc (h : Ch w w' F) (o : Obj) : Ch w (w'.alloc o) F := ⟨h.os, h.tape, h.output, Nat.le_trans h.size (by simp), fun b hb hn => by rw [heap_alloc_old w' o (Nat.lt_of_lt_of_le hb h.size)]; exact h.block b hb hn⟩
theorem Ch.drew (h : Ch w w' F) : Ch w w'.drew F := ⟨h.os, h.tape, h.output, h.size, h.block⟩
theorem Ch.drewN (h : Ch w w' F) (n : Nat) : Ch w (w'.drewN n) F := ⟨h.os, h.tape, h.output, h.size, h.block⟩
end

/-- block b holds just these cells -/
def BoxV (w : World) (b : Nat) (T : TypeId) (vs : List Value) : Prop := w.heap[b]? = some (.cells vs.toArray T (0, 0))
section
variable {w w' : World} {F : Nat → Prop} {b : Nat} {T : TypeId} {vs : List Value}
theorem BoxV.lt (h : BoxV w b T vs) : b < w.heap.size := (Array.getElem?_eq_some_iff.1 h).1
theorem BoxV.cell (h : BoxV w b T vs) {j : Nat} {u : Value} (hu : vs[j]? = some u) : w.cell? ⟨b, j, none⟩ = some u := by
  simp [World.cell?, show w.heap[b]? = _ from h, hu]
theorem BoxV.free (h : BoxV w b T vs) (j : Nat) : w.frozen? ⟨b, j, none⟩ = false := by simp [World.frozen?, show w.heap[b]? = _ from h]
theorem BoxV.set (h : BoxV w b T vs) (j : Nat) (u : Value) : BoxV (w.setCell ⟨b, j, none⟩ u) b T (vs.set j u) := by
  unfold BoxV
  simp [World.setCell, Array.getElem?_modify, show w.heap[b]? = _ from h]
theorem BoxV.setOther (h : BoxV w b T vs) {c j : Nat} (u : Value) (hne : b ≠ c) : BoxV (w.setCell ⟨c, j, none⟩ u) b T vs := by
  unfold BoxV
  rw [Below.heap_setCell w _ _ b hne]; exact h
theorem BoxV.ch (h : BoxV w b T vs) (hc : Ch w w' F) (hn : ¬ F b) : BoxV w' b T vs := (hc.block b h.lt hn).trans h
theorem BoxV.new (w : World) (vs : List Value) (T : TypeId) : BoxV (w.alloc (.cells vs.toArray T)) w.heap.size T vs := heap_alloc_new w _
theorem BoxV.alloc (h : BoxV w b T vs) (o : Obj) : BoxV (w.alloc o) b T vs := (heap_alloc_old w o h.lt).trans h
theorem BoxV.drew (h : BoxV w b T vs) : BoxV w.drew b T vs := h
theorem BoxV.drewN (h : BoxV w b T vs) (n : Nat) : BoxV (w.drewN n) b T vs := h
theorem BoxV.below (h : BoxV w b T vs) (hb : Below w.heap.size w w') : BoxV w' b T vs := (hb.block b h.lt).trans h
end
theorem ty_ne {w : World} {g b : Nat} {E T : TypeId} {cs cs' : Array Value} {m m' : Nat × Nat} (h1 : w.heap[g]? = some (.cells cs E m)) (h2 : w.heap[b]? = some (.cells cs' T m')) (h : E ≠ T) : g ≠ b := by
  intro e
  subst e
  rw [h1] at h2
  injection h2 with h2
  injection h2 with _ h2
  exact h h2
section
variable {w w' : World} {F : Nat → Prop} {base k : Nat} {E T : TypeId} {v u : Value} {xs : List Value} {xss : List (List Value)}
theorem Own.heapAt (h : Own w base E v xs) (hh : ∀ g, v.ownBlock = some g → w'.heap[g]? = w.heap[g]?) : Own w' base E v xs := by
  refine ⟨h.1, ?_⟩
  rcases h.2 with h2 | ⟨g, cap, cur, e1, e2, e3, e4⟩
  · exact .inl h2
  · exact .inr ⟨g, cap, cur, e1, e2, by rw [hh g (by rw [e1]; rfl)]; exact e3, e4⟩
theorem OwnK.heapAt' (h : OwnK w base E k v xss) (hh : ∀ g, v.ownBlock = some g → w'.heap[g]? = w.heap[g]?) : OwnK w' base E k v xss := by
  refine ⟨h.1, h.2.1, ?_⟩
  rcases h.2.2 with h3 | ⟨g, cap, cur, e1, e2, e3, e4⟩
  · exact .inl h3
  · exact .inr ⟨g, cap, cur, e1, e2, by rw [hh g (by rw [e1]; rfl)]; exact e3, e4⟩
theorem Own.ch (h : Own w base E v xs) (hc : Ch w w' F) (hn : ∀ g, v.ownBlock = some g → ¬ F g) : Own w' base E v xs := h.heapAt fun g hg => hc.block g (h.lt g hg).2 (hn g hg)
theorem OwnK.ch (h : OwnK w base E k v xss) (hc : Ch w w' F) (hn : ∀ g, v.ownBlock = some g → ¬ F g) : OwnK w' base E k v xss := h.heapAt' fun g hg => hc.block g (h.lt g hg).2 (hn g hg)
theorem OwnQ.ch (h : OwnQ w base E k v xss) (hc : Ch w w' F) (hn : ∀ g, v.ownBlock = some g → ¬ F g) : OwnQ w' base E k v xss := h.heapAt fun g hg => hc.block g (h.lt g hg).2 (hn g hg)
theorem Own.ty (h : Own w base E v xs) {g : Nat} (hg : v.ownBlock = some g) : ∃ cur, w.heap[g]? = some (.cells cur E (0, 0)) := by
  rcases h.2 with ⟨rfl, _⟩ | ⟨g', cap, cur, rfl, e2, e3, e4⟩
  · cases hg
  · injection hg with hg; subst hg; exact ⟨_, e3⟩
theorem OwnK.ty (h : OwnK w base E k v xss) {g : Nat} (hg : v.ownBlock = some g) : ∃ cur, w.heap[g]? = some (.cells cur E (0, 0)) := by
  rcases h.2.2 with ⟨rfl, _⟩ | ⟨g', cap, cur, rfl, e2, e3, e4⟩
  · cases hg
  · injection hg with hg; subst hg; exact ⟨_, e3⟩
theorem OwnQ.ty (h : OwnQ w base E k v xss) {g : Nat} (hg : v.ownBlock = some g) : ∃ cur, w.heap[g]? = some (.cells cur E (0, 0)) := by
  rcases h.2 with ⟨rfl, _⟩ | ⟨g', off, c, cur, rfl, e2, e3, e4⟩
  · cases hg
  · injection hg with hg; subst hg; exact ⟨_, e3⟩
/-- a row of one type is no box of another one -/
theorem Own.notBox {b : Nat} {vs : List Value} (h : Own w base E v xs) (hb : BoxV w b T vs) (hT : E ≠ T) : v.ownBlock ≠ some b := fun e => by
  obtain ⟨cur, hc⟩ := h.ty e
  exact ty_ne hc hb hT rfl
theorem OwnK.notBox {b : Nat} {vs : List Value} (h : OwnK w base E k v xss) (hb : BoxV w b T vs) (hT : E ≠ T) : v.ownBlock ≠ some b := fun e => by
  obtain ⟨cur, hc⟩ := h.ty e
  exact ty_ne hc hb hT rfl
theorem OwnQ.notBox {b : Nat} {vs : List Value} (h : OwnQ w base E k v xss) (hb : BoxV w b T vs) (hT : E ≠ T) : v.ownBlock ≠ some b := fun e => by
  obtain ⟨cur, hc⟩ := h.ty e
  exact ty_ne hc hb hT rfl
end
section
variable {P : Program} {w w' : World} {base k : Nat} {E T : TypeId} {v z : Value} {xs : List Value} {xss : List (List Value)} {bytes : Nat}
/-- append(v, u), u just laid: told by the new list, the value by its parts -/
theorem app1s {ops : Array Oper} {rest : List Oper} {o : Oper} {a : Act} {Q : Exit → Act → World → Prop} (el : Elem P T E z bytes) (hgd : o.guard = none) (s x : Operand)
    (ho : o.op = .call { callee := .builtin .append, args := #[s, x], argTypes := #[T, T] })
    (hs : a.eval s = v) (hown : Own w base E v xs) (u : Value) (E' : TypeId) (ys : List Value) (n : Nat) (hys : Hid (xs ++ [u] = ys)) (hyn : Hid (ys.length = n)) (hx : a.eval x = .slice (some ⟨w.heap.size, 0, none⟩) 1 1) (h1 : u.oneCell' = true)
    (h63 : n ≤ maxLen) (hbytes : n * bytes ≤ 140737488355328) (hbase : base ≤ w.heap.size)
    (h : ∀ A' c' w', Own w' base E (.slice A' n c') ys → Below base w w' → w.grownBy w' v.ownBlock → ((Value.slice A' n c').ownBlock = v.ownBlock ∨ (Value.slice A' n c').ownBlock = some (w.heap.size + 1)) → wpList P ops Q rest (a.put o.dst (.slice A' n c')) w') : wpList P ops Q (o :: rest) a (w.alloc (.cells #[u] E')) := by
  have hn : xs.length + 1 = n := by rw [← hyn.out, ← hys.out]; simp
  refine app1 el hgd s x ho hs hown u E' hx h1 (by rw [hn]; exact h63) (by rw [hn]; exact hbytes) hbase fun v' w' h2 hb h3 h4 => ?_
  rw [hys.out] at h2
  obtain ⟨A', c', e⟩ := h2.form
  rw [hyn.out] at e
  subst e
  exact h A' c' w' h2 hb h3 h4
theorem OwnQ.reads {A : Option Addr} {n c : Nat} (h : OwnQ w base E k (.slice A n c) xss) : ReadsK w w.heap.size k A n xss := by
  obtain ⟨A', c', e⟩ := h.form
  injection e with _ en _
  subst en
  refine ⟨rfl, fun hn => ?_⟩
  rcases h.2 with ⟨e, h0⟩ | ⟨g, off, c', cur, e, e2, e3, e4, e5, e6, e7⟩
  · subst h0; simp at hn
  · injection e with eA _ _
    subst eA
    refine ⟨_, rfl, (Array.getElem?_eq_some_iff.1 e3).1, fun i xs hx => ⟨h.1 xs (List.mem_of_getElem? hx), fun j u hu => ?_⟩⟩
    obtain ⟨ad, ea, _, _, _, hc⟩ := h.at_ hx
    injection ea with ea
    subst ea
    have := hc j u hu
    have e8 : (⟨g, off, none⟩ : Addr).add (i * k + j) = ⟨g, off + (i * k + j), none⟩ := by unfold Addr.add; split <;> simp_all
    rw [e8]; exact this
end
end Go.Proofs.Ytpbffbhebdcpbaa

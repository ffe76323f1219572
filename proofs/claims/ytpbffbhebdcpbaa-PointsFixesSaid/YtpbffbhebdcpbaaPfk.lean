/-
  points.each: an append of which it is told what became of what was appended to; all choices of places, one after the other.
-/
import Derived.Test.YtpbffbhebdcpbaaQueue
import Derived.Test.YtpbffbhebdcpbaaPfw
import Derived.Test.YtpbffbhebdcpbaaPfl
import Derived.Test.YtpbffbhebdcpbaaCh
import Derived.CallsIn
set_option linter.unusedVariables false
namespace Go.Proofs.Ytpbffbhebdcpbaa
open Go.RowKit Go.Shelf
attribute [local go_sem] Oper.semAt_some

section
variable {P : Program} {w w' : World} {base k : Nat} {E T : TypeId} {v : Value} {xss : List (List Value)} {bytes : Nat}
theorem run_appQk (el : ElemK P T E k bytes) (ty : TypeId) (hown : OwnQ w base E k v xss) (a : Addr) (c0 : Nat) (cs : List Value) (hl : cs.length = k) (hnews : ∀ j u, cs[j]? = some u → w.cell? (a.add j) = some u) (h1 : ∀ u ∈ cs, u.oneCell' = true)
    (h63 : xss.length + 1 ≤ maxLen) (hbytes : (xss.length + 1) * bytes ≤ 140737488355328) (hbase : base ≤ w.heap.size) :
    ∃ v' w', (Builtin.append_ #[T, T] ty #[v, .slice (some a) 1 c0]).run P w = .ok v' w' ∧ OwnQ w' base E k v' (xss ++ [cs]) ∧ w.grownBy w' v.ownBlock ∧ ((∃ ad c, v = .slice ad xss.length c ∧ v' = .slice ad (xss.length + 1) c) ∨ (v'.ownBlock = some w.heap.size ∧ w.grownBy w' none)) := by
  obtain ⟨i, z, hi, hz, hsize, hby, hzs⟩ := el.info
  subst hsize
  subst hby
  have hsrc : Src P i.size T (.slice (some a) 1 c0) 1 cs w := Src.ofSlice w el.under a 1 c0 cs (by omega) hnews h1
  have hlen1 : (xss ++ [cs]).length = xss.length + 1 := by simp
  have hall : ∀ x ∈ xss ++ [cs], x.length = i.size := by
    intro y hy
    rcases List.mem_append.1 hy with hy | hy
    · exact hown.1 y hy
    · rw [List.mem_singleton.1 hy]; exact hl
  have hfl : (xss ++ [cs]).flatten = xss.flatten ++ cs := by simp
  have hfn := flat_len xss hown.1
  have grown : ∀ (old : Nat) (row : Option Nat), OwnQ (w.drew.alloc (.cells ((xss.flatten ++ cs).toArray ++ Builtin.zeroCells z.cells (grownCap w (xss.length + 1) old E - (xss.length + 1))) E)) base E i.size
        (.slice (some ⟨w.heap.size, 0, none⟩) (xss.length + 1) (grownCap w (xss.length + 1) old E)) (xss ++ [cs]) ∧
      w.grownBy (w.drew.alloc (.cells ((xss.flatten ++ cs).toArray ++ Builtin.zeroCells z.cells (grownCap w (xss.length + 1) old E - (xss.length + 1))) E)) row := by
    intro old row
    have hge := grownCap_ge w (xss.length + 1) old E
    have hcm : grownCap w (xss.length + 1) old E ≤ maxLen := grownCap_le_maxLen w (xss.length + 1) old E h63
    refine ⟨⟨hall, .inr ⟨w.heap.size, 0, _, _, by rw [hlen1], hbase, heap_alloc_new w.drew _, by rw [hlen1]; exact hge, hcm, ?_, fun j hj => ?_⟩⟩, ⟨rfl, rfl, rfl, by simp, fun q hq _ => heap_alloc_old w.drew _ hq⟩⟩
    · simp only [Array.size_append, List.size_toArray, size_zeroCells, hzs, List.length_append, hfn, hl]
      have : grownCap w (xss.length + 1) old E * i.size = (xss.length + 1) * i.size + (grownCap w (xss.length + 1) old E - (xss.length + 1)) * i.size := by rw [← Nat.add_mul]; congr 1; omega
      rw [this, Nat.succ_mul]; omega
    · rw [hlen1, Nat.succ_mul] at hj
      rw [hfl, Nat.zero_add, Array.getElem?_append_left (by simp only [List.size_toArray, List.length_append, hfn, hl]; omega)]
      simp
  rcases hown.2 with ⟨rfl, rfl⟩ | ⟨g, off, c, cur, rfl, hbg, hg, hnc, hcm, hcs, htake⟩
  · have hr := run_append_grow_src (P := P) w T T ty E i z el.under hi hz none 0 0 [] (run_firstCells_none w.drew i.size 0 0 0) (.slice (some a) 1 c0) 1 cs hsrc (by omega) (by omega) (growslice_fits (by omega) (by simpa using hbytes))
    obtain ⟨h2, h3⟩ := grown 0 (Value.ownBlock (.slice none 0 0))
    obtain ⟨_, h4⟩ := grown 0 none
    simp only [List.length_nil, Nat.zero_add, List.flatten_nil, List.nil_append] at h2 h3 h4 hr ⊢
    exact ⟨_, _, hr, h2, h3, Or.inr ⟨rfl, h4⟩⟩
  · by_cases hroom : xss.length + 1 ≤ c
    · have hck : (xss.length + 1) * i.size ≤ c * i.size := Nat.mul_le_mul_right _ hroom
      rw [Nat.succ_mul] at hck
      have hfit : off + xss.length * i.size + cs.length ≤ cur.size := by omega
      have hr := run_append_room_src (P := P) w T T ty E i el.under hi g off xss.length c (.slice (some a) 1 c0) 1 cs hsrc hroom
        (fun j hj => by simp only [World.cell?, hg]; rw [Array.getElem?_eq_getElem (by omega)]; rfl) (fun j hj => by simp [World.frozen?, hg])
      obtain ⟨cur', q1, q2, q3⟩ := setCells_row g E (0, 0) cs (off + xss.length * i.size) w cur hg hfit
      obtain ⟨s1, s2, s3, s4, s5⟩ := setCells_other g cs (off + xss.length * i.size) w
      refine ⟨_, _, hr, ⟨hall, .inr ⟨g, off, c, cur', by rw [hlen1], hbg, q1, by rw [hlen1]; exact hroom, hcm, by rw [q2]; exact hcs, fun j hj => ?_⟩⟩, ⟨s1, s2, s3, Nat.le_of_eq s4.symm, fun q _ hq => s5 q (fun e => hq (by simp [Value.ownBlock, e]))⟩, Or.inl ⟨_, _, rfl, rfl⟩⟩
      rw [hlen1, Nat.succ_mul] at hj
      rw [q3, hfl]
      rcases Nat.lt_or_ge j (xss.length * i.size) with h5 | h5
      · rw [if_neg (by omega), List.getElem?_append_left (by omega), htake j h5]
      · rw [if_pos (by omega), List.getElem?_append_right (by omega), hfn]
        congr 1; omega
    · have hold : ∀ j u, xss.flatten[j]? = some u → w.drew.cell? ((⟨g, off, none⟩ : Addr).add j) = some u := by
        intro j u hu
        have hj : j < xss.length * i.size := by rw [← hfn]; exact (List.getElem?_eq_some_iff.1 hu).1
        have e : (⟨g, off, none⟩ : Addr).add j = ⟨g, off + j, none⟩ := by unfold Addr.add; split <;> simp_all
        rw [e]
        show w.cell? ⟨g, off + j, none⟩ = some u
        simp [World.cell?, hg, htake j hj, hu]
      have hr := run_append_grow_src (P := P) w T T ty E i z el.under hi hz (some ⟨g, off, none⟩) xss.length c xss.flatten (run_firstCells_some w.drew i.size xss.length ⟨g, off, none⟩ xss.length c xss.flatten hfn hold) (.slice (some a) 1 c0) 1 cs hsrc (by omega) (by unfold maxLen at h63; omega) (growslice_fits (by omega) hbytes)
      obtain ⟨h2, h3⟩ := grown c (Value.ownBlock (.slice (some ⟨g, off, none⟩) xss.length c))
      exact ⟨_, _, hr, h2, h3, Or.inr ⟨rfl, (grown c none).2⟩⟩
theorem step_appQk {ops : Array Oper} {o : Oper} {a : Act} {K : Act → World → Prop} {Q : Exit → Act → World → Prop} {EE : Prop} (el : ElemK P T E k bytes) (hgd : o.guard = none) (s x : Operand)
    (ho : o.op = .call { callee := .builtin .append, args := #[s, x], argTypes := #[T, T] })
    (hs : a.eval s = v) (hown : OwnQ w base E k v xss) (ad : Addr) (c0 : Nat) (cs : List Value) (hx : a.eval x = .slice (some ad) 1 c0) (hl : cs.length = k) (hnews : ∀ j u, cs[j]? = some u → w.cell? (ad.add j) = some u) (h1 : ∀ u ∈ cs, u.oneCell' = true)
    (h63 : xss.length + 1 ≤ maxLen) (hbytes : (xss.length + 1) * bytes ≤ 140737488355328) (hbase : base ≤ w.heap.size)
    (h : ∀ v' w', OwnQ w' base E k v' (xss ++ [cs]) → w.grownBy w' v.ownBlock → ((∃ ad c, v = .slice ad xss.length c ∧ v' = .slice ad (xss.length + 1) c) ∨ (v'.ownBlock = some w.heap.size ∧ w.grownBy w' none)) → K (a.put o.dst v') w') : if Region.wanted o (yielded ops a.tmps) = true then Oper.wp P o a w K Q else EE := by
  have hw : Region.wanted o (yielded ops a.tmps) = true := by simp [Region.wanted, hgd]
  rw [if_pos hw]
  obtain ⟨v', w', hrun, h2, h3, h4⟩ := run_appQk el o.type hown ad c0 cs hl hnews h1 h63 hbytes hbase
  unfold Oper.wp execOp
  simp only [ho, resolve, invoke, builtin, Sem.run_bind, Sem.run_pure, Result.andThen_ok, List.map_toArray, List.map_cons, List.map_nil, hs, hx, hrun]
  exact h v' w' h2 h3 h4
/-- the row without its last struct -/
theorem OwnQ.init {ad : Option Addr} {n c : Nat} {cs : List Value} (h : OwnQ w base E k (.slice ad (n + 1) c) (xss ++ [cs])) (hn : xss.length = n) : OwnQ w base E k (.slice ad n c) xss := by
  refine ⟨fun x hx => h.1 x (List.mem_append_left _ hx), ?_⟩
  rcases h.2 with ⟨e, _⟩ | ⟨g, off, c', cur, e, e2, e3, e4, e5, e6, e7⟩
  · injection e with _ e _; omega
  · injection e with ea en ec
    subst ea
    subst ec
    refine .inr ⟨g, off, c, cur, by rw [hn], e2, e3, by rw [List.length_append] at e4; omega, e5, e6, fun j hj => ?_⟩
    have hfl : (xss ++ [cs]).flatten = xss.flatten ++ cs := by simp
    have h1 := e7 j (by rw [List.length_append, Nat.add_mul]; omega)
    rw [h1, hfl, List.getElem?_append_left]
    rw [flat_len xss (fun x hx => h.1 x (List.mem_append_left _ hx))]; exact hj
end
/-- numbers, one cell each -/
def iL (L : List Nat) : List (List Value) := L.map fun i : Nat => [Value.int .i64 (i : Int)]
theorem iL_len (L : List Nat) : (iL L).length = L.length := by simp [iL]
theorem iL_snoc (L : List Nat) (i : Nat) : iL L ++ [[Value.int .i64 (i : Int)]] = iL (L ++ [i]) := by simp [iL]
theorem OwnQ.readsI {w : World} {base n c : Nat} {E : TypeId} {A : Option Addr} {L : List Nat} (h : OwnQ w base E 1 (.slice A n c) (iL L)) : Reads w w.heap.size A n (vn .i64 L) := by
  obtain ⟨A', c', e⟩ := h.form
  have hn : n = L.length := by injection e with _ e _; rw [e, iL_len]
  subst hn
  refine ⟨by simp, fun hp => ?_⟩
  have h0 : 0 < (iL L).length := by rw [iL_len]; exact hp
  obtain ⟨ad, rfl, _, hlt, hsp, _⟩ := h.at_ (i := 0) (List.getElem?_eq_getElem h0)
  refine ⟨ad, rfl, hlt, fun j u hu => ?_⟩
  rw [List.getElem?_map] at hu
  obtain ⟨x, hx, rfl⟩ := Option.map_eq_some_iff.1 hu
  have hxi : (iL L)[j]? = some [Value.int .i64 (x : Int)] := by unfold iL; rw [List.getElem?_map, hx]; rfl
  obtain ⟨_, e2, _, _, _, hc⟩ := h.at_ hxi
  injection e2 with e2
  subst e2
  have := hc 0 _ rfl
  obtain ⟨b, o, s⟩ := ad
  obtain rfl : s = none := hsp
  have e3 : (⟨b, o, none⟩ : Addr).add j = ⟨b, o + (j * 1 + 0), none⟩ := by unfold Addr.add; split <;> simp_all
  rw [e3]; exact this
theorem el_int1F : ElemK Try.prog 35 3 1 8 := ElemK.mk' (z := .int .i64 0) Try.underlying35 (by kernel_rfl) rfl (by omega)
/-- of the rows that were there none but this one may have changed -/
structure KC (row : Option Nat) (A B : World) : Prop where
  size : A.heap.size ≤ B.heap.size
  cells : ∀ (b : Nat) (cs : Array Value) (E : TypeId) (m : Nat × Nat), A.heap[b]? = some (Obj.cells cs E m) → some b ≠ row → B.heap[b]? = some (Obj.cells cs E m)
section
variable {row row' : Option Nat} {A B C : World}
theorem KC.refl (row : Option Nat) (A : World) : KC row A A := ⟨Nat.le_refl _, fun _ _ _ _ h _ => h⟩
theorem KC.trans (h : KC row A B) (k : KC row' B C) (hr : ∀ b, b < A.heap.size → row' = some b → row = some b) : KC row A C :=
  ⟨Nat.le_trans h.size k.size, fun b cs E m hb hne => k.cells b cs E m (h.cells b cs E m hb hne) (fun e => hne (hr b (Array.getElem?_eq_some_iff.1 hb).1 e.symm).symm)⟩
theorem KC.of_KA (h : KA A B) : KC row A B := ⟨h.size, fun b cs E m hb _ => h.cells b cs E m hb⟩
theorem KC.grown (h : A.grownBy B row) : KC row A B := ⟨h.size, fun b cs E m hb hne => (h.block b (Array.getElem?_eq_some_iff.1 hb).1 hne).trans hb⟩
theorem KC.alloc (h : KC row A B) (o : Obj) : KC row A (B.alloc o) := ⟨Nat.le_trans h.size (by simp), fun b cs E m hb hne => by
  have := h.cells b cs E m hb hne
  rw [heap_alloc_old B o (Array.getElem?_eq_some_iff.1 this).1]; exact this⟩
theorem KC.drew (h : KC row A B) : KC row A B.drew := ⟨h.size, h.cells⟩
theorem KC.cell (h : KC row A B) {p : Addr} {u : Value} (hp : A.cell? p = some u) (hne : row ≠ some p.block) : B.cell? p = some u := by
  unfold World.cell? at hp ⊢
  cases ho : A.heap[p.block]? with
  | none => rw [ho] at hp; cases hp
  | some o =>
    rw [ho] at hp
    cases o with
    | cells cs E m => rw [h.cells p.block cs E m ho (fun e => hne e.symm)]; exact hp
    | _ => simp at hp
theorem OwnQ.kc {base k : Nat} {E : TypeId} {v : Value} {xss : List (List Value)} (h : OwnQ A base E k v xss) (hk : KC row A B) (hne : ∀ g, v.ownBlock = some g → row ≠ some g) : OwnQ B base E k v xss :=
  h.heapAt fun g hg => by
    obtain ⟨cur, hc⟩ := h.ty hg
    rw [hk.cells g cur E (0, 0) hc (fun e => hne g hg e.symm), hc]
theorem St.alloc {R : Nat} (h : St R A B) (hR : R ≤ B.heap.size) (o : Obj) : St R A (B.alloc o) :=
  ⟨h.os, h.tape, h.output, Nat.le_trans h.size (by simp), fun b hb => by rw [heap_alloc_old B o (Nat.lt_of_lt_of_le hb hR)]; exact h.low b hb, fun b o' ho hc => by
    have := h.other b o' ho hc
    rw [heap_alloc_old B o (Array.getElem?_eq_some_iff.1 this).1]; exact this⟩
theorem St.drew {R : Nat} (h : St R A B) : St R A B.drew := ⟨h.os, h.tape, h.output, h.size, h.low, h.other⟩
theorem St.drewN {R : Nat} (h : St R A B) (n : Nat) : St R A (B.drewN n) := ⟨h.os, h.tape, h.output, h.size, h.low, h.other⟩
theorem St.grown {R : Nat} (hg : A.grownBy B row) (hR : R ≤ A.heap.size) (hr : ∀ g, row = some g → R ≤ g ∧ ∃ cs E m, A.heap[g]? = some (Obj.cells cs E m)) : St R A B :=
  ⟨hg.os, hg.tape, hg.output, hg.size, fun b hb => hg.block b (by omega) (fun e => by have := (hr b e.symm).1; omega), fun b o ho hc => by
    rw [hg.block b (Array.getElem?_eq_some_iff.1 ho).1 (fun e => by
      obtain ⟨cs, E, m, h⟩ := (hr b e.symm).2
      rw [h] at ho; injection ho with ho; subst ho; cases hc), ho]⟩
end
end Go.Proofs.Ytpbffbhebdcpbaa

/-
  A row that the call made, seen from some element on: appended to at the end, resliced from the front. Over any program.
-/
import Derived.Test.YtpbffbhebdcpbaaStructs
import Derived.Test.YtpbffbhebdcpbaaStore
import Derived.Deep.AppendSrc
import Derived.Deep.RegionLaw
import Derived.Lib.Hide
set_option linter.unusedVariables false
namespace Go.Proofs.Ytpbffbhebdcpbaa
open Go.RowKit

theorem setCells_row (g : Nat) (E : TypeId) (m : Nat × Nat) : ∀ (vs : List Value) (o : Nat) (w : World) (cur : Array Value), w.heap[g]? = some (.cells cur E m) → o + vs.length ≤ cur.size →
    ∃ cur' : Array Value, (w.setCells g o vs).heap[g]? = some (.cells cur' E m) ∧ cur'.size = cur.size ∧ ∀ j, cur'[j]? = if o ≤ j ∧ j < o + vs.length then vs[j - o]? else cur[j]?
  | [], o, w, cur, h, _ => ⟨cur, h, rfl, fun j => by rw [if_neg (by simp)]⟩
  | v :: r, o, w, cur, h, hl => by
    have h1 : (w.setCell ⟨g, o, none⟩ v).heap[g]? = some (.cells (cur.setIfInBounds o v) E m) := by
      simp [World.setCell, Array.getElem?_modify, h]
    simp only [List.length_cons] at hl
    obtain ⟨cur', h2, h3, h4⟩ := setCells_row g E m r (o + 1) _ _ h1 (by simp; omega)
    refine ⟨cur', h2, by rw [h3]; simp, fun j => ?_⟩
    rw [h4 j]
    by_cases e : j = o
    · subst e
      rw [if_neg (by omega), if_pos (by simp), Nat.sub_self, Array.getElem?_setIfInBounds_self]
      simp; omega
    · rw [Array.getElem?_setIfInBounds_ne (by omega)]
      by_cases h5 : o + 1 ≤ j ∧ j < o + 1 + r.length
      · rw [if_pos h5, if_pos (by simp; omega), show j - o = (j - (o + 1)) + 1 by omega]; simp
      · rw [if_neg h5, if_neg (by simp; omega)]
theorem setCells_other (g : Nat) : ∀ (vs : List Value) (o : Nat) (w : World), (w.setCells g o vs).os = w.os ∧ (w.setCells g o vs).tape = w.tape ∧ (w.setCells g o vs).output = w.output ∧ (w.setCells g o vs).heap.size = w.heap.size ∧ ∀ i, i ≠ g → (w.setCells g o vs).heap[i]? = w.heap[i]?
  | [], o, w => ⟨rfl, rfl, rfl, rfl, fun _ _ => rfl⟩
  | v :: r, o, w => by
    obtain ⟨a, b, c, d, e⟩ := setCells_other g r (o + 1) (w.setCell ⟨g, o, none⟩ v)
    refine ⟨a, b, c, by rw [World.setCells, d]; simp, fun i hi => ?_⟩
    rw [World.setCells, e i hi, Below.heap_setCell w _ _ i hi]

/-- The structs xss of k cells each, in a row that the call made, from the cell off on; or nil. -/
def OwnQ (w : World) (base : Nat) (E : TypeId) (k : Nat) (v : Value) (xss : List (List Value)) : Prop :=
  (∀ x ∈ xss, x.length = k) ∧ ((v = .slice none 0 0 ∧ xss = []) ∨ ∃ g off c cur, v = .slice (some ⟨g, off, none⟩) xss.length c ∧ base ≤ g ∧ w.heap[g]? = some (.cells cur E (0, 0)) ∧ xss.length ≤ c ∧ c ≤ maxLen ∧ off + c * k ≤ cur.size ∧ ∀ j, j < xss.length * k → cur[off + j]? = xss.flatten[j]?)
section
variable {P : Program} {w w' : World} {base k : Nat} {E T : TypeId} {v : Value} {xss : List (List Value)} {bytes : Nat}
theorem OwnQ.nil (w : World) (base : Nat) (E : TypeId) (k : Nat) : OwnQ w base E k (.slice none 0 0) [] := ⟨by simp, .inl ⟨rfl, rfl⟩⟩
theorem OwnQ.form (h : OwnQ w base E k v xss) : ∃ A c, v = .slice A xss.length c := by
  rcases h.2 with ⟨rfl, rfl⟩ | ⟨g, off, c, cur, rfl, _⟩
  · exact ⟨none, 0, rfl⟩
  · exact ⟨_, _, rfl⟩
theorem OwnQ.heapAt (h : OwnQ w base E k v xss) (hh : ∀ g, v.ownBlock = some g → w'.heap[g]? = w.heap[g]?) : OwnQ w' base E k v xss := by
  refine ⟨h.1, ?_⟩
  rcases h.2 with h2 | ⟨g, off, c, cur, e1, e2, e3, e4⟩
  · exact .inl h2
  · exact .inr ⟨g, off, c, cur, e1, e2, by rw [hh g (by rw [e1]; rfl)]; exact e3, e4⟩
theorem OwnQ.lt (h : OwnQ w base E k v xss) : ∀ g, v.ownBlock = some g → base ≤ g ∧ g < w.heap.size := by
  intro g hg
  rcases h.2 with ⟨rfl, _⟩ | ⟨g', off, c, cur, rfl, e2, e3, e4⟩
  · cases hg
  · injection hg with hg
    subst hg
    exact ⟨e2, (Array.getElem?_eq_some_iff.1 e3).1⟩
theorem OwnQ.drewN (h : OwnQ w base E k v xss) (n : Nat) : OwnQ (w.drewN n) base E k v xss := h.heapAt fun _ _ => rfl
theorem OwnQ.drew (h : OwnQ w base E k v xss) : OwnQ w.drew base E k v xss := h.heapAt fun _ _ => rfl
theorem OwnQ.below (h : OwnQ w base E k v xss) {B : Nat} (hb : Below B w w') (hB : w.heap.size ≤ B) : OwnQ w' base E k v xss := h.heapAt fun g hg => hb.block g (by have := (h.lt g hg).2; omega)
theorem OwnQ.alloc (h : OwnQ w base E k v xss) (o : Obj) : OwnQ (w.alloc o) base E k v xss := h.below ((Below.refl _ _).alloc (Nat.le_refl _) o) (Nat.le_refl _)
theorem OwnQ.setOther (h : OwnQ w base E k v xss) (p : Addr) (u : Value) (hne : v.ownBlock ≠ some p.block) : OwnQ (w.setCell p u) base E k v xss :=
  h.heapAt fun g hg => Below.heap_setCell w p u g (fun e => hne (by rw [hg, e]))
theorem OwnQ.kept (h : OwnQ w base E k v xss) {row : Option Nat} (hg : w.grownBy w' row) (hne : v.ownBlock = none ∨ v.ownBlock ≠ row) : OwnQ w' base E k v xss :=
  h.heapAt fun g hv => hg.block g (h.lt g hv).2 (fun e => by
    rcases hne with h1 | h1
    · rw [hv] at h1; cases h1
    · exact h1 (hv.trans e))
theorem OwnQ.low (h : OwnQ w base E k v xss) {B : Nat} (hB : B ≤ base) : OwnQ w B E k v xss := by
  refine ⟨h.1, ?_⟩
  rcases h.2 with h2 | ⟨g, off, c, cur, e1, e2, e3⟩
  · exact .inl h2
  · exact .inr ⟨g, off, c, cur, e1, by omega, e3⟩
theorem OwnQ.at_ {A : Option Addr} {n c i : Nat} {xs : List Value} (h : OwnQ w base E k (.slice A n c) xss) (hx : xss[i]? = some xs) : ∃ ad, A = some ad ∧ base ≤ ad.block ∧ ad.block < w.heap.size ∧ ad.spot = none ∧ ∀ j u, xs[j]? = some u → w.cell? ⟨ad.block, ad.off + (i * k + j), none⟩ = some u := by
  rcases h.2 with ⟨e, h0⟩ | ⟨g, off, c', cur, e, e2, e3, e4, e5, e6, e7⟩
  · subst h0; simp at hx
  · injection e with eA _ _
    refine ⟨_, eA, e2, (Array.getElem?_eq_some_iff.1 e3).1, rfl, fun j u hu => ?_⟩
    have hk := h.1 xs (List.mem_of_getElem? hx)
    have hj : j < k := by rw [← hk]; exact (List.getElem?_eq_some_iff.1 hu).1
    have hi : i < xss.length := (List.getElem?_eq_some_iff.1 hx).1
    have hlt : i * k + j < xss.length * k := by
      have := Nat.mul_le_mul_right k (show i + 1 ≤ xss.length from hi)
      rw [Nat.succ_mul] at this
      omega
    have h8 := (e7 (i * k + j) hlt).trans (flat_at xss i j xs h.1 hx hj)
    rw [hu] at h8
    show w.cell? ⟨g, off + (i * k + j), none⟩ = _
    simp [World.cell?, e3, h8]
/-- the row without its first element; where the capacity is 1 the address stays -/
theorem OwnQ.tail {A : Option Addr} {n c : Nat} {x : List Value} {t : List (List Value)} (h : OwnQ w base E k (.slice A n c) (x :: t)) : ∃ ad, A = some ad ∧ ad.spot = none ∧ n = t.length + 1 ∧ t.length + 1 ≤ c ∧ OwnQ w base E k (.slice (some (if c = 1 then ad else ⟨ad.block, ad.off + k, none⟩)) t.length (c - 1)) t := by
  rcases h.2 with ⟨e, h0⟩ | ⟨g, off, c', cur, e, e2, e3, e4, e5, e6, e7⟩
  · cases h0
  · injection e with eA en ec
    subst ec
    simp only [List.length_cons] at en e4 e7
    refine ⟨_, eA, rfl, en, e4, fun y hy => h.1 y (List.mem_cons_of_mem _ hy), .inr ?_⟩
    have hxk := h.1 x (by simp)
    by_cases hc : c = 1
    · have ht : t = [] := List.eq_nil_of_length_eq_zero (by omega)
      subst ht
      rw [if_pos hc]
      exact ⟨g, off, c - 1, cur, rfl, e2, e3, by simp, by omega, by subst hc; simp at e6 ⊢; omega, fun j hj => by simp at hj⟩
    · rw [if_neg hc]
      refine ⟨g, off + k, c - 1, cur, rfl, e2, e3, by omega, by omega, ?_, fun j hj => ?_⟩
      · have : c * k = (c - 1) * k + k := by rw [← Nat.succ_mul]; congr 1; omega
        omega
      · have h8 := e7 (k + j) (by rw [Nat.succ_mul]; omega)
        rw [List.flatten_cons, List.getElem?_append_right (by omega), hxk, show k + j - k = j by omega] at h8
        rw [← h8]; congr 1; omega
theorem run_appQ (el : ElemK P T E k bytes) (ty : TypeId) (hown : OwnQ w base E k v xss) (a : Addr) (c0 : Nat) (cs : List Value) (hl : cs.length = k) (hnews : ∀ j u, cs[j]? = some u → w.cell? (a.add j) = some u) (h1 : ∀ u ∈ cs, u.oneCell' = true)
    (h63 : xss.length + 1 ≤ maxLen) (hbytes : (xss.length + 1) * bytes ≤ 140737488355328) (hbase : base ≤ w.heap.size) :
    ∃ v' w', (Builtin.append_ #[T, T] ty #[v, .slice (some a) 1 c0]).run P w = .ok v' w' ∧ OwnQ w' base E k v' (xss ++ [cs]) ∧ w.grownBy w' v.ownBlock ∧ (v'.ownBlock = v.ownBlock ∨ v'.ownBlock = some w.heap.size) := by
  obtain ⟨i, z, hi, hz, hsize, hby, hzs⟩ := el.info
  subst hsize
  subst hby
  have hsrc : Src P i.size T (.slice (some a) 1 c0) 1 cs w := Src.ofSlice w el.under a 1 c0 cs (by omega) hnews h1
  have hlen1 : (xss ++ [cs]).length = xss.length + 1 := by simp
  have hall : ∀ x ∈ xss ++ [cs], x.length = i.size := by
    intro y hy
    rcases List.mem_append.1 hy with hy | hy
    · exact hown.1 y hy
    · rw [List.mem_singleton.1 hy]; exact hl
  have hfl : (xss ++ [cs]).flatten = xss.flatten ++ cs := by simp
  have hfn := flat_len xss hown.1
  have grown : ∀ (old : Nat) (row : Option Nat), OwnQ (w.drew.alloc (.cells ((xss.flatten ++ cs).toArray ++ Builtin.zeroCells z.cells (grownCap w (xss.length + 1) old E - (xss.length + 1))) E)) base E i.size
        (.slice (some ⟨w.heap.size, 0, none⟩) (xss.length + 1) (grownCap w (xss.length + 1) old E)) (xss ++ [cs]) ∧
      w.grownBy (w.drew.alloc (.cells ((xss.flatten ++ cs).toArray ++ Builtin.zeroCells z.cells (grownCap w (xss.length + 1) old E - (xss.length + 1))) E)) row := by
    intro old row
    have hge := grownCap_ge w (xss.length + 1) old E
    have hcm : grownCap w (xss.length + 1) old E ≤ maxLen := grownCap_le_maxLen w (xss.length + 1) old E h63
    refine ⟨⟨hall, .inr ⟨w.heap.size, 0, _, _, by rw [hlen1], hbase, heap_alloc_new w.drew _, by rw [hlen1]; exact hge, hcm, ?_, fun j hj => ?_⟩⟩, ⟨rfl, rfl, rfl, by simp, fun q hq _ => heap_alloc_old w.drew _ hq⟩⟩
    · simp only [Array.size_append, List.size_toArray, size_zeroCells, hzs, List.length_append, hfn, hl]
      have : grownCap w (xss.length + 1) old E * i.size = (xss.length + 1) * i.size + (grownCap w (xss.length + 1) old E - (xss.length + 1)) * i.size := by rw [← Nat.add_mul]; congr 1; omega
      rw [this, Nat.succ_mul]; omega
    · rw [hlen1, Nat.succ_mul] at hj
      rw [hfl, Nat.zero_add, Array.getElem?_append_left (by simp only [List.size_toArray, List.length_append, hfn, hl]; omega)]
      simp
  rcases hown.2 with ⟨rfl, rfl⟩ | ⟨g, off, c, cur, rfl, hbg, hg, hnc, hcm, hcs, htake⟩
  · have hr := run_append_grow_src (P := P) w T T ty E i z el.under hi hz none 0 0 [] (run_firstCells_none w.drew i.size 0 0 0) (.slice (some a) 1 c0) 1 cs hsrc (by omega) (by omega) (growslice_fits (by omega) (by simpa using hbytes))
    obtain ⟨h2, h3⟩ := grown 0 (Value.ownBlock (.slice none 0 0))
    simp only [List.length_nil, Nat.zero_add, List.flatten_nil, List.nil_append] at h2 h3 hr ⊢
    exact ⟨_, _, hr, h2, h3, Or.inr rfl⟩
  · by_cases hroom : xss.length + 1 ≤ c
    · have hck : (xss.length + 1) * i.size ≤ c * i.size := Nat.mul_le_mul_right _ hroom
      rw [Nat.succ_mul] at hck
      have hfit : off + xss.length * i.size + cs.length ≤ cur.size := by omega
      have hr := run_append_room_src (P := P) w T T ty E i el.under hi g off xss.length c (.slice (some a) 1 c0) 1 cs hsrc hroom
        (fun j hj => by simp only [World.cell?, hg]; rw [Array.getElem?_eq_getElem (by omega)]; rfl) (fun j hj => by simp [World.frozen?, hg])
      obtain ⟨cur', q1, q2, q3⟩ := setCells_row g E (0, 0) cs (off + xss.length * i.size) w cur hg hfit
      obtain ⟨s1, s2, s3, s4, s5⟩ := setCells_other g cs (off + xss.length * i.size) w
      refine ⟨_, _, hr, ⟨hall, .inr ⟨g, off, c, cur', by rw [hlen1], hbg, q1, by rw [hlen1]; exact hroom, hcm, by rw [q2]; exact hcs, fun j hj => ?_⟩⟩, ⟨s1, s2, s3, Nat.le_of_eq s4.symm, fun q _ hq => s5 q (fun e => hq (by simp [Value.ownBlock, e]))⟩, Or.inl rfl⟩
      rw [hlen1, Nat.succ_mul] at hj
      rw [q3, hfl]
      rcases Nat.lt_or_ge j (xss.length * i.size) with h5 | h5
      · rw [if_neg (by omega), List.getElem?_append_left (by omega), htake j h5]
      · rw [if_pos (by omega), List.getElem?_append_right (by omega), hfn]
        congr 1; omega
    · have hold : ∀ j u, xss.flatten[j]? = some u → w.drew.cell? ((⟨g, off, none⟩ : Addr).add j) = some u := by
        intro j u hu
        have hj : j < xss.length * i.size := by rw [← hfn]; exact (List.getElem?_eq_some_iff.1 hu).1
        have e : (⟨g, off, none⟩ : Addr).add j = ⟨g, off + j, none⟩ := by unfold Addr.add; split <;> simp_all
        rw [e]
        show w.cell? ⟨g, off + j, none⟩ = some u
        simp [World.cell?, hg, htake j hj, hu]
      have hr := run_append_grow_src (P := P) w T T ty E i z el.under hi hz (some ⟨g, off, none⟩) xss.length c xss.flatten (run_firstCells_some w.drew i.size xss.length ⟨g, off, none⟩ xss.length c xss.flatten hfn hold) (.slice (some a) 1 c0) 1 cs hsrc (by omega) (by unfold maxLen at h63; omega) (growslice_fits (by omega) hbytes)
      obtain ⟨h2, h3⟩ := grown c (Value.ownBlock (.slice (some ⟨g, off, none⟩) xss.length c))
      exact ⟨_, _, hr, h2, h3, Or.inr rfl⟩
/-- append(v, u): the struct u was just laid into a block of its own. -/
theorem app1Q {ops : Array Oper} {rest : List Oper} {o : Oper} {a : Act} {Q : Exit → Act → World → Prop} (el : ElemK P T E k bytes) (hgd : o.guard = none) (s x : Operand)
    (ho : o.op = .call { callee := .builtin .append, args := #[s, x], argTypes := #[T, T] })
    (hs : a.eval s = v) (hown : OwnQ w base E k v xss) (cs : Array Value) (E' : TypeId) (hx : a.eval x = .slice (some ⟨w.heap.size, 0, none⟩) 1 1) (hk : cs.size = k) (h1 : ∀ u ∈ cs.toList, u.oneCell' = true)
    (h63 : xss.length + 1 ≤ maxLen) (hbytes : (xss.length + 1) * bytes ≤ 140737488355328) (hbase : base ≤ w.heap.size)
    (h : ∀ v' w', OwnQ w' base E k v' (xss ++ [cs.toList]) → Below base w w' → w.grownBy w' v.ownBlock → (v'.ownBlock = v.ownBlock ∨ v'.ownBlock = some (w.heap.size + 1)) → wpList P ops Q rest (a.put o.dst v') w') : wpList P ops Q (o :: rest) a (w.alloc (.cells cs E')) := by
  have hnews : ∀ j u, cs.toList[j]? = some u → (w.alloc (.cells cs E')).cell? ((⟨w.heap.size, 0, none⟩ : Addr).add j) = some u := fun j u hu => by
    have hh : (w.alloc (.cells cs E')).heap[w.heap.size]? = some (.cells cs E' (0, 0)) := heap_alloc_new w _
    have := cell_of_row (w.alloc (.cells cs E')) w.heap.size j cs E' (0, 0) hh
    rw [add_row, this]
    simpa using hu
  obtain ⟨v', w', hrun, h2, h3, h4⟩ := run_appQ el o.type (hown.alloc (.cells cs E')) ⟨w.heap.size, 0, none⟩ 1 cs.toList (by simpa using hk) hnews h1 h63 hbytes (by simp; omega)
  have hg : w.grownBy w' v.ownBlock := by
    have h5 := World.grownBy_alloc w (.cells cs E') v.ownBlock
    refine ⟨h3.os.trans h5.os, h3.tape.trans h5.tape, h3.output.trans h5.output, Nat.le_trans h5.size h3.size, fun j hj hne => ?_⟩
    rw [h3.block j (by simp; omega) hne, h5.block j hj hne]
  refine wpList_plain hgd fun K hK => ?_
  unfold Oper.wp execOp
  simp only [ho, resolve, invoke, builtin, Sem.run_bind, Sem.run_pure, Result.andThen_ok, List.map_toArray, List.map_cons, List.map_nil, hs, hx, hrun]
  exact hK _ _ (h v' w' h2 (grown_below hg hbase (fun j hj => (hown.lt j hj).1)) hg (by simpa using h4))
/-- the same in a region that draws its order -/
theorem step_appQ {ops : Array Oper} {o : Oper} {a : Act} {K : Act → World → Prop} {Q : Exit → Act → World → Prop} {EE : Prop} (el : ElemK P T E k bytes) (hgd : o.guard = none) (s x : Operand)
    (ho : o.op = .call { callee := .builtin .append, args := #[s, x], argTypes := #[T, T] })
    (hs : a.eval s = v) (hown : OwnQ w base E k v xss) (ad : Addr) (c0 : Nat) (cs : List Value) (hx : a.eval x = .slice (some ad) 1 c0) (hl : cs.length = k) (hnews : ∀ j u, cs[j]? = some u → w.cell? (ad.add j) = some u) (h1 : ∀ u ∈ cs, u.oneCell' = true)
    (h63 : xss.length + 1 ≤ maxLen) (hbytes : (xss.length + 1) * bytes ≤ 140737488355328) (hbase : base ≤ w.heap.size)
    (h : ∀ v' w', OwnQ w' base E k v' (xss ++ [cs]) → w.grownBy w' v.ownBlock → (v'.ownBlock = v.ownBlock ∨ v'.ownBlock = some w.heap.size) → K (a.put o.dst v') w') : if Region.wanted o (yielded ops a.tmps) = true then Oper.wp P o a w K Q else EE := by
  have hw : Region.wanted o (yielded ops a.tmps) = true := by simp [Region.wanted, hgd]
  rw [if_pos hw]
  obtain ⟨v', w', hrun, h2, h3, h4⟩ := run_appQ el o.type hown ad c0 cs hl hnews h1 h63 hbytes hbase
  unfold Oper.wp execOp
  simp only [ho, resolve, invoke, builtin, Sem.run_bind, Sem.run_pure, Result.andThen_ok, List.map_toArray, List.map_cons, List.map_nil, hs, hx, hrun]
  exact h v' w' h2 h3 h4
/-- the same; what is appended to told by its new list, the value by its parts -/
theorem step_appQs {ops : Array Oper} {o : Oper} {a : Act} {K : Act → World → Prop} {Q : Exit → Act → World → Prop} {EE : Prop} (el : ElemK P T E k bytes) (hgd : o.guard = none) (s x : Operand)
    (ho : o.op = .call { callee := .builtin .append, args := #[s, x], argTypes := #[T, T] })
    (hs : a.eval s = v) (hown : OwnQ w base E k v xss) (ad : Addr) (c0 : Nat) (cs : List Value) (ys : List (List Value)) (n : Nat) (hys : Hid (xss ++ [cs] = ys)) (hyn : Hid (ys.length = n)) (hx : a.eval x = .slice (some ad) 1 c0) (hl : cs.length = k) (hnews : ∀ j u, cs[j]? = some u → w.cell? (ad.add j) = some u) (h1 : ∀ u ∈ cs, u.oneCell' = true)
    (h63 : n ≤ maxLen) (hbytes : n * bytes ≤ 140737488355328) (hbase : base ≤ w.heap.size)
    (h : ∀ A' c' w', OwnQ w' base E k (.slice A' n c') ys → w.grownBy w' v.ownBlock → ((Value.slice A' n c').ownBlock = v.ownBlock ∨ (Value.slice A' n c').ownBlock = some w.heap.size) → K (a.put o.dst (.slice A' n c')) w') : if Region.wanted o (yielded ops a.tmps) = true then Oper.wp P o a w K Q else EE := by
  have hn : xss.length + 1 = n := by rw [← hyn.out, ← hys.out]; simp
  refine step_appQ el hgd s x ho hs hown ad c0 cs hx hl hnews h1 (by rw [hn]; exact h63) (by rw [hn]; exact hbytes) hbase fun v' w' h2 h3 h4 => ?_
  rw [hys.out] at h2
  obtain ⟨A', c', e⟩ := h2.form
  rw [hyn.out] at e
  subst e
  exact h A' c' w' h2 h3 h4
/-- append(v, u) where u was just laid, told by its new list and its parts -/
theorem app1Qs {ops : Array Oper} {rest : List Oper} {o : Oper} {a : Act} {Q : Exit → Act → World → Prop} (el : ElemK P T E k bytes) (hgd : o.guard = none) (s x : Operand)
    (ho : o.op = .call { callee := .builtin .append, args := #[s, x], argTypes := #[T, T] })
    (hs : a.eval s = v) (hown : OwnQ w base E k v xss) (cs : Array Value) (E' : TypeId) (ys : List (List Value)) (n : Nat) (hys : Hid (xss ++ [cs.toList] = ys)) (hyn : Hid (ys.length = n)) (hx : a.eval x = .slice (some ⟨w.heap.size, 0, none⟩) 1 1) (hk : cs.size = k) (h1 : ∀ u ∈ cs.toList, u.oneCell' = true)
    (h63 : n ≤ maxLen) (hbytes : n * bytes ≤ 140737488355328) (hbase : base ≤ w.heap.size)
    (h : ∀ A' c' w', OwnQ w' base E k (.slice A' n c') ys → Below base w w' → w.grownBy w' v.ownBlock → ((Value.slice A' n c').ownBlock = v.ownBlock ∨ (Value.slice A' n c').ownBlock = some (w.heap.size + 1)) → wpList P ops Q rest (a.put o.dst (.slice A' n c')) w') : wpList P ops Q (o :: rest) a (w.alloc (.cells cs E')) := by
  have hn : xss.length + 1 = n := by rw [← hyn.out, ← hys.out]; simp
  refine app1Q el hgd s x ho hs hown cs E' hx hk h1 (by rw [hn]; exact h63) (by rw [hn]; exact hbytes) hbase fun v' w' h2 hb h3 h4 => ?_
  rw [hys.out] at h2
  obtain ⟨A', c', e⟩ := h2.form
  rw [hyn.out] at e
  subst e
  exact h A' c' w' h2 hb h3 h4
end
end Go.Proofs.Ytpbffbhebdcpbaa

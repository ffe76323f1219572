/-
  Appending so many zeros (append with a make) to a slice of the call's own; slices of slices. Over any program.
-/
import Derived.Test.YtdidahafbcddeaaOwn
import Derived.Lib.AppendZerosOnto
set_option linter.unusedVariables false
namespace Go.Proofs.Ytdidahafbcddeaa
open Go.RowKit

theorem zeroCells_one (z : Value) (n : Nat) : (Builtin.zeroCells #[z] n).toList = List.replicate n z := by
  apply List.ext_getElem?
  intro j
  unfold Builtin.zeroCells
  simp only [Array.toList_map, List.getElem?_map, List.getElem?_replicate]
  by_cases hj : j < n
  · simp [hj, Nat.mod_one]
  · simp [hj]
section
variable {P : Program} {w w' : World} {base : Nat} {E T tn : TypeId} {v z : Value} {xs : List Value} {bytes : Nat}
theorem run_appZ (el : Elem P T E z bytes) (ty : TypeId) {kn : IntKind} (htn : P.underlying tn = some (.int kn)) (hown : Own w base E v xs) (k : Nat) (hk : 0 < k) (h1 : z.oneCell' = true)
    (h63 : xs.length + k ≤ maxLen) (hbytes : (xs.length + k) * bytes ≤ 140737488355328) (hbase : base ≤ w.heap.size) :
    ∃ v' w', (Builtin.append_ #[T, tn] ty #[v, .int .i64 (k : Int)]).run P w = .ok v' w' ∧ Own w' base E v' (xs ++ List.replicate k z) ∧ w.grownBy w' v.ownBlock ∧ (v'.ownBlock = v.ownBlock ∨ v'.ownBlock = some w.heap.size) := by
  obtain ⟨i, hi, hz, hsize, hby⟩ := el.info
  have hm63 : ((xs.length + k : Nat) : Int) ≤ 9223372036854775807 := by unfold maxLen at h63; omega
  have hk48 : k * i.bytes ≤ 281474976710656 := by
    rw [hby]
    have : k * bytes ≤ (xs.length + k) * bytes := Nat.mul_le_mul_right _ (by omega)
    omega
  have grown : ∀ (old : Nat), old < xs.length + k → ∀ (row : Option Nat) (c1 c2 : Array Value), c1.toList = xs → c2.toList = List.replicate k z →
      Own (w.drew.alloc (.cells (c1 ++ c2 ++ Builtin.zeroCells z.cells (grownCap w (xs.length + k) old E - (xs.length + k))) E)) base E (.slice (some ⟨w.heap.size, 0, none⟩) (xs.length + k) (grownCap w (xs.length + k) old E)) (xs ++ List.replicate k z) ∧
      w.grownBy (w.drew.alloc (.cells (c1 ++ c2 ++ Builtin.zeroCells z.cells (grownCap w (xs.length + k) old E - (xs.length + k))) E)) row := by
    intro old ho row c1 c2 e1 e2
    have hge := grownCap_ge w (xs.length + k) old E
    have hcm : grownCap w (xs.length + k) old E ≤ maxLen := grownCap_le_maxLen w (xs.length + k) old E h63
    have s1 : c1.size = xs.length := by rw [← e1]; simp
    have s2 : c2.size = k := by
      have : c2.toList.length = k := by rw [e2]; simp
      simpa using this
    have hlen : (xs ++ List.replicate k z).length = xs.length + k := by simp
    refine ⟨?_, ⟨rfl, rfl, rfl, by simp, fun j hj _ => by first | exact heap_alloc_old w.drew _ hj | exact Go.heap_alloc_old w.drew _ j hj⟩⟩
    unfold Own
    rw [hlen]
    refine ⟨by rw [hlen, Nat.mul_one], .inr ⟨w.heap.size, _, _, rfl, hbase, heap_alloc_new w.drew _, hge, hcm, ?_, ?_⟩⟩
    · rw [el.one]
      simp only [Array.size_append, s1, s2, size_zeroCells, List.size_toArray, List.length_cons, List.length_nil]
      omega
    · simp only [Array.toList_append, e1, e2]
      rw [Nat.mul_one, ← hlen]
      exact List.take_left
  rcases hown.2 with ⟨rfl, h0⟩ | ⟨g, cap, cur, rfl, hbg, hg, hnc, hcm, hcs, htake⟩
  · have hx : xs = [] := List.eq_nil_of_length_eq_zero h0
    subst hx
    have hr := Lib.run_append_nil_zeros (P := P) w T tn ty E i z .i64 kn el.under htn hi hz k hk (by omega) (by simpa using hm63) hk48
    have hgr := grown 0 (by simp; omega) (Value.ownBlock (.slice none 0 0)) #[] (Builtin.zeroCells z.cells k) rfl (by rw [el.one]; exact zeroCells_one z k)
    simp only [List.length_nil, Nat.zero_add, Array.empty_append] at hgr ⊢
    exact ⟨_, _, hr, hgr.1, hgr.2, .inr rfl⟩
  · by_cases hroom : xs.length + k ≤ cap
    · have hst := run_storeCells_at P g (xs.length * i.size) E (List.replicate k z) 0 cur w hg (by rw [hsize]; simp; omega) (by intro u hu; rw [(List.mem_replicate.1 hu).2]; exact h1)
      simp only [Nat.add_zero] at hst
      have hw : IntKind.i64.wrap (k : Int) = k := by rw [IntKind.wrap_i64]; omega
      have hneg : ¬ ((k : Int) < 0) := by omega
      have h48i : ¬ (281474976710656 < (k : Int) * (i.bytes : Int)) := by rw [← Int.natCast_mul]; omega
      have hns : ¬ (k * i.size = 0) := Nat.mul_ne_zero (by omega) (by omega)
      have hzc : (Builtin.zeroCells z.cells k).toList = List.replicate k z := by rw [el.one]; exact zeroCells_one z k
      have hr : (Builtin.append_ #[T, tn] ty #[.slice (some ⟨g, 0, none⟩) xs.length cap, .int .i64 (k : Int)]).run P w = .ok (.slice (some ⟨g, 0, none⟩) (xs.length + k) cap) (w.setRow g (cur.toList.take (xs.length * i.size) ++ List.replicate k z ++ cur.toList.drop (xs.length * i.size + (List.replicate k z).length)).toArray) := by
        simp [Builtin.append_, run_underlying el.under, run_underlying htn, sizeOf, typeInfo, zeroValue, hi, hz, asInt, asIntOf, hw, hneg, h48i, hns, hroom, Addr.add_lit, hst, hzc]
      have hlen : (xs ++ List.replicate k z).length = xs.length + k := by simp
      refine ⟨_, _, hr, ?_, ⟨rfl, rfl, rfl, by simp, fun j _ hj => setRow_other w g j _ (fun e => hj (by simp [Value.ownBlock, e]))⟩, .inl rfl⟩
      unfold Own
      rw [hlen]
      refine ⟨by rw [hlen, Nat.mul_one], .inr ⟨g, cap, _, rfl, hbg, setRow_heap w g cur _ E _ hg, hroom, hcm, ?_, ?_⟩⟩
      · simp only [List.size_toArray, List.length_append, List.length_take, List.length_drop, Array.length_toList, List.length_replicate, hsize]
        omega
      · rw [hsize, htake, Nat.mul_one, ← hlen]
        exact List.take_left
    · have holds : ∀ j u, xs[j]? = some u → w.drew.cell? ((⟨g, 0, none⟩ : Addr).add j) = some u := World.ownsRow.cells (w := w.drew) (World.ownsRow.drew hown) (g := g) rfl
      have hold := run_firstCells_some (P := P) w.drew i.size xs.length ⟨g, 0, none⟩ xs.length cap xs (by rw [hsize, Nat.mul_one]) holds
      have hr := Lib.run_append_grow_zeros (P := P) w T tn ty E i z .i64 kn el.under htn hi hz (some ⟨g, 0, none⟩) xs.length cap xs hold k hk (by omega) (by omega) hm63 hk48 (by rw [hby]; exact growslice_fits (by omega) hbytes)
      have hgr := grown cap (by omega) (Value.ownBlock (.slice (some ⟨g, 0, none⟩) xs.length cap)) xs.toArray (Builtin.zeroCells z.cells k) rfl (by rw [el.one]; exact zeroCells_one z k)
      exact ⟨_, _, hr, hgr.1, hgr.2, .inr rfl⟩
/-- append(v, make([]T, k)...), k above 0 -/
theorem appZ {ops : Array Oper} {rest : List Oper} {o : Oper} {a : Act} {Q : Exit → Act → World → Prop} (el : Elem P T E z bytes) {kn : IntKind} (htn : P.underlying tn = some (.int kn)) (hgd : o.guard = none) (s x : Operand)
    (ho : o.op = .call { callee := .builtin .append, args := #[s, x], argTypes := #[T, tn] })
    (hs : a.eval s = v) (hown : Own w base E v xs) (k : Nat) (hk : 0 < k) (hx : a.eval x = .int .i64 (k : Int)) (h1 : z.oneCell' = true)
    (h63 : xs.length + k ≤ maxLen) (hbytes : (xs.length + k) * bytes ≤ 140737488355328) (hbase : base ≤ w.heap.size)
    (h : ∀ v' w', Own w' base E v' (xs ++ List.replicate k z) → Below base w w' → w.grownBy w' v.ownBlock → (v'.ownBlock = v.ownBlock ∨ v'.ownBlock = some w.heap.size) → wpList P ops Q rest (a.put o.dst v') w') : wpList P ops Q (o :: rest) a w := by
  obtain ⟨v', w', hr, ho', hg, hat⟩ := run_appZ el o.type htn hown k hk h1 h63 hbytes hbase
  exact Lib.wpList_append_run w hgd s x T tn ho v _ hs hx v' w' hr (h v' w' ho' (grown_below hg hbase (fun j hj => (Own.lt hown j hj).1)) hg hat)
end

theorem Own.capLe' {w : World} {base n c : Nat} {E : TypeId} {A : Option Addr} {xs : List Value} (h : Own w base E (.slice A n c) xs) : n ≤ c := by
  have hl := h.len
  rcases h.2 with ⟨e, h0⟩ | ⟨g, cap, cur, e, hb, hh, hnc, hc2, hs, ht⟩
  · injection e with e1 e2 e3; omega
  · injection e with e1 e2 e3; omega
theorem Own.capMax {w : World} {base n c : Nat} {E : TypeId} {A : Option Addr} {xs : List Value} (h : Own w base E (.slice A n c) xs) : c ≤ maxLen := by
  rcases h.2 with ⟨e, h0⟩ | ⟨g, cap, cur, e, hb, hh, hnc, hc2, hs, ht⟩
  · injection e with e1 e2 e3; unfold maxLen; omega
  · injection e with e1 e2 e3; omega
/-- cut to no element -/
theorem Own.cut0 {w : World} {base n c : Nat} {E : TypeId} {ad : Addr} {xs : List Value} (h : Own w base E (.slice (some ad) n c) xs) : Own w base E (.slice (some ad) 0 c) [] := by
  rcases h.2 with ⟨e, h0⟩ | ⟨g, cap, cur, e, hb, hh, hnc, hc2, hs, ht⟩
  · simp at e
  · injection e with e1 e2 e3
    injection e1 with e1
    subst e1
    subst e3
    exact ⟨by simp, .inr ⟨g, c, cur, rfl, hb, hh, Nat.zero_le _, hc2, hs, by simp⟩⟩
/-- The slice value with address A and n elements holds slices that read as the lists xss. -/
def Rows (w : World) (B : Nat) (A : Option Addr) (n : Nat) (xss : List (List Value)) : Prop :=
  ∃ vs : List Value, Reads w B A n vs ∧ vs.length = xss.length ∧ ∀ (k : Nat) (xs : List Value), xss[k]? = some xs → ∃ (A' : Option Addr) (n' c' : Nat), vs[k]? = some (Value.slice A' n' c') ∧ Reads w B A' n' xs
section
variable {w w' : World} {B B' n : Nat} {A : Option Addr} {xss : List (List Value)}
theorem Rows.length (h : Rows w B A n xss) : xss.length = n := by
  obtain ⟨vs, hv, hl, _⟩ := h
  rw [← hl]; exact hv.len
theorem Rows.row (h : Rows w B A n xss) {k : Nat} (hk : k < n) :
    ∃ ad xs A' n' c', A = some ad ∧ ad.block < B ∧ xss[k]? = some xs ∧ w.cell? (ad.add k) = some (.slice A' n' c') ∧ Reads w B A' n' xs := by
  obtain ⟨vs, hv, hl, he⟩ := h
  obtain ⟨ad, u, rfl, hb, hx, hc⟩ := hv.at_ hk
  have hk' : k < xss.length := by rw [← hl, hv.len]; exact hk
  obtain ⟨A', n', c', e, h2⟩ := he k _ (List.getElem?_eq_getElem hk')
  rw [hx] at e
  injection e with e
  subst e
  exact ⟨ad, xss[k], A', n', c', rfl, hb, List.getElem?_eq_getElem hk', hc, h2⟩
theorem Rows.keep (h : Rows w B A n xss) (hk : ∀ p : Addr, p.block < B → w'.cell? p = w.cell? p) : Rows w' B A n xss := by
  obtain ⟨vs, hv, hl, he⟩ := h
  exact ⟨vs, hv.keep hk, hl, fun k xs hx => by obtain ⟨A', n', c', e, h2⟩ := he k xs hx; exact ⟨A', n', c', e, h2.keep hk⟩⟩
theorem Rows.below (h : Rows w B A n xss) (hb : Below B w w') : Rows w' B A n xss := h.keep fun _ hp => hb.cell hp
theorem Rows.more (h : Rows w B A n xss) (hB : B ≤ B') : Rows w B' A n xss := by
  obtain ⟨vs, hv, hl, he⟩ := h
  exact ⟨vs, hv.more hB, hl, fun k xs hx => by obtain ⟨A', n', c', e, h2⟩ := he k xs hx; exact ⟨A', n', c', e, h2.more hB⟩⟩
theorem Rows.alloc (h : Rows w B A n xss) (hB : B ≤ w.heap.size) (o : Obj) : Rows (w.alloc o) B A n xss := h.keep fun p hp => World.cell?_alloc_lt w o p (by omega)
theorem Rows.drewN (h : Rows w B A n xss) (k : Nat) : Rows (w.drewN k) B A n xss := h.keep fun _ _ => rfl
/-- two slices, laid side by side -/
theorem rows_two {A1 A2 : Option Addr} {n1 n2 c1 c2 : Nat} {x1 x2 : List Value} (T : TypeId) (h1 : Reads w w.heap.size A1 n1 x1) (h2 : Reads w w.heap.size A2 n2 x2) :
    Rows (w.alloc (.cells #[.slice A1 n1 c1, .slice A2 n2 c2] T)) (w.heap.size + 1) (some ⟨w.heap.size, 0, none⟩) 2 [x1, x2] := by
  refine ⟨[.slice A1 n1 c1, .slice A2 n2 c2], by simpa using reads_lay w #[.slice A1 n1 c1, .slice A2 n2 c2] T 2 rfl, rfl, ?_⟩
  intro k xs hx
  match k with
  | 0 => simp at hx; subst hx; exact ⟨A1, n1, c1, rfl, (h1.alloc (Nat.le_refl _) _).more (by omega)⟩
  | 1 => simp at hx; subst hx; exact ⟨A2, n2, c2, rfl, (h2.alloc (Nat.le_refl _) _).more (by omega)⟩
  | k + 2 => simp at hx
theorem rows_three {A1 A2 A3 : Option Addr} {n1 n2 n3 c1 c2 c3 : Nat} {x1 x2 x3 : List Value} (T : TypeId) (h1 : Reads w w.heap.size A1 n1 x1) (h2 : Reads w w.heap.size A2 n2 x2) (h3 : Reads w w.heap.size A3 n3 x3) :
    Rows (w.alloc (.cells #[.slice A1 n1 c1, .slice A2 n2 c2, .slice A3 n3 c3] T)) (w.heap.size + 1) (some ⟨w.heap.size, 0, none⟩) 3 [x1, x2, x3] := by
  refine ⟨[.slice A1 n1 c1, .slice A2 n2 c2, .slice A3 n3 c3], by simpa using reads_lay w #[.slice A1 n1 c1, .slice A2 n2 c2, .slice A3 n3 c3] T 3 rfl, rfl, ?_⟩
  intro k xs hx
  match k with
  | 0 => simp at hx; subst hx; exact ⟨A1, n1, c1, rfl, (h1.alloc (Nat.le_refl _) _).more (by omega)⟩
  | 1 => simp at hx; subst hx; exact ⟨A2, n2, c2, rfl, (h2.alloc (Nat.le_refl _) _).more (by omega)⟩
  | 2 => simp at hx; subst hx; exact ⟨A3, n3, c3, rfl, (h3.alloc (Nat.le_refl _) _).more (by omega)⟩
  | k + 3 => simp at hx
end
end Go.Proofs.Ytdidahafbcddeaa

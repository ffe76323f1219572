/-
  slices.Insert of one bit into a slice of the call's own.
-/
import Derived.Test.YthbmnaonnebnhaaProg
import Derived.Test.YthbmnaonnebnhaaDropf
import Derived.Test.YthbmnaonnebnhaaStore
import Derived.Test.YthbmnaonnebnhaaAppz
import Derived.Test.YthbmnaonnebnhaaCloneBools
import Derived.Laws.CopyOwn
import Derived.Lib.Overlaps
import Derived.Laws.Externs
set_option linter.unusedVariables false
namespace Go.Proofs.Ythbmnaonnebnhaa
open Go.RowKit

/-- copy into a row of the call's own -/
theorem run_copy_putC {P : Program} {w : World} (ty dT sT elem : TypeId) (hu : P.underlying dT = some (.slice elem)) (hsz : (P.info? elem).map (·.size) = some 1)
    (g off dLen dCap sLen sCap : Nat) (ad : Addr)
    {base n c : Nat} {T : TypeId} {xs : List Value} (hown : Own w base T (.slice (some ⟨g, 0, none⟩) n c) xs) (cs : List Value) (hn : cs.length = Nat.min sLen dLen)
    (hsrc : ∀ j v, cs[j]? = some v → w.cell? (ad.add j) = some v) (hfit : off + cs.length ≤ n) (h1 : ∀ v ∈ cs, v.oneCell' = true) :
    ∃ w', (Builtin.copy_ #[dT, sT] ty #[.slice (some ⟨g, off, none⟩) dLen dCap, .slice (some ad) sLen sCap]).run P w = .ok (goInt cs.length) w' ∧ Own w' base T (.slice (some ⟨g, 0, none⟩) n c) (splice xs off cs) ∧ w.grownBy w' (some g) := by
  by_cases h0 : cs.length = 0
  · obtain rfl : cs = [] := List.eq_nil_of_length_eq_zero h0
    have hrun := run_copy_none (P := P) w dT sT ty elem (some ⟨g, off, none⟩) (some ad) dLen dCap sLen sCap hu hsz (by simpa using hn.symm)
    exact ⟨w, hrun, by simpa [splice] using hown, World.grownBy.refl _ _⟩
  · have hlen := hown.len
    rcases hown.2 with ⟨e, _⟩ | ⟨g', cap', cur, e, hbase, hb, h2, h3, h4, h5⟩
    · simp at e
    · injection e with e1 e2 e3
      injection e1 with e1
      injection e1 with e1
      subst e1 e3
      rw [Nat.mul_one] at h4 h5
      have hrun := run_copy_row (P := P) w dT sT ty elem g off dLen dCap ad sLen sCap cur T cs hu hsz hb hn hsrc (by omega) h1
      have hsp : List.take off cur.toList ++ cs ++ List.drop (off + cs.length) cur.toList = splice cur.toList off cs := by unfold splice; rw [List.append_assoc]
      rw [hsp] at hrun
      refine ⟨_, hrun, ?_, ⟨rfl, rfl, rfl, by simp [World.setRow], fun k hk hne => setRow_other w g k _ (fun e => hne (by rw [e]))⟩⟩
      refine ⟨(Nat.mul_one _).symm, .inr ⟨g, c, (splice cur.toList off cs).toArray, ?_, hbase, ?_, ?_, h3, ?_, ?_⟩⟩
      · rw [length_splice _ _ _ (by omega), hlen]
      · have := setRow_heap w g cur (splice cur.toList off cs).toArray T _ hb
        exact this
      · rw [length_splice _ _ _ (by omega), hlen]; omega
      · rw [Nat.mul_one, List.size_toArray, length_splice _ _ _ (by simp; omega)]; simpa using h4
      · rw [Nat.mul_one, length_splice _ _ _ (by omega), hlen]
        rw [hlen] at h5
        rw [← h5]
        unfold splice
        apply List.ext_getElem?
        intro j
        simp only [List.getElem?_take, List.getElem?_append, List.length_take, List.getElem?_drop, Array.length_toList]
        by_cases hj : j < n
        · rw [if_pos hj]
          have e1 : min off cur.size = off := by omega
          have e2 : min off (min n cur.size) = off := by omega
          rw [e1, e2]
          by_cases j1 : j < off
          · simp only [j1, if_true, hj]
          · simp only [j1, if_false]
            by_cases j2 : j - off < cs.length
            · simp only [j2, if_true]
            · simp only [j2, if_false]
              rw [if_pos (by omega)]
        · rw [if_neg hj]
          rw [if_neg (by omega), if_neg (by omega), if_neg (by omega)]


section
variable {P : Program} {w : World} {base g n c : Nat} {E : TypeId} {xs : List Value}
theorem Own.cutF (h : Own w base E (.slice (some ⟨g, 0, none⟩) n c) xs) {k : Nat} (hk : k ≤ n) : Own w base E (.slice (some ⟨g, 0, none⟩) k c) (xs.take k) := by
  have hl := h.len
  have hlk : (xs.take k).length = k := by rw [List.length_take, hl]; omega
  rcases h.2 with ⟨e, _⟩ | ⟨g', cap, cur, e, hb, hh, hnc, hc2, hs, ht⟩
  · simp at e
  · injection e with e1 e2 e3
    injection e1 with e1; injection e1 with e1
    subst e1 e3
    unfold Own
    rw [hlk]
    refine ⟨by rw [hlk, Nat.mul_one], .inr ⟨g, c, cur, rfl, hb, hh, by omega, hc2, hs, ?_⟩⟩
    rw [hl] at ht
    rw [← ht, List.take_take]
    congr 1; omega
theorem Own.ext1 (h : Own w base E (.slice (some ⟨g, 0, none⟩) n c) xs) (hc : n + 1 ≤ c) : ∃ y, Own w base E (.slice (some ⟨g, 0, none⟩) (n + 1) c) (xs ++ [y]) := by
  have hl := h.len
  rcases h.2 with ⟨e, _⟩ | ⟨g', cap, cur, e, hb, hh, hnc, hc2, hs, ht⟩
  · simp at e
  · injection e with e1 e2 e3
    injection e1 with e1; injection e1 with e1
    subst e1 e3
    obtain ⟨y, hx⟩ : ∃ y, cur.toList[n]? = some y := ⟨_, List.getElem?_eq_getElem (by rw [Array.length_toList]; omega)⟩
    refine ⟨y, ?_⟩
    have hl2 : (xs ++ [y]).length = n + 1 := by simp [hl]
    unfold Own
    rw [hl2]
    refine ⟨by rw [hl2, Nat.mul_one], .inr ⟨g, c, cur, rfl, hb, hh, hc, hc2, hs, ?_⟩⟩
    rw [hl, Nat.mul_one] at ht
    rw [Nat.mul_one, take_next hx, ht]
theorem Own.shape (h : Own w base E (.slice (some ⟨g, 0, none⟩) n c) xs) : w.shape? g = some (E, c) := by
  rcases h.2 with ⟨e, _⟩ | ⟨g', cap, cur, e, hb, hh, hnc, hc2, hs, ht⟩
  · simp at e
  · injection e with e1 e2 e3
    injection e1 with e1; injection e1 with e1
    subst e1 e3
    unfold World.shape?
    rw [hh]; simp; omega
/-- append(v, make([]T, k)...) where there is no room: a new row -/
theorem run_appZ_grow {T tn : TypeId} {z : Value} {bytes : Nat} (el : Elem P T E z bytes) (ty : TypeId) {kn : IntKind} (htn : P.underlying tn = some (.int kn)) (hown : Own w base E (.slice (some ⟨g, 0, none⟩) n c) xs) (k : Nat) (hk : 0 < k) (hroom : c < n + k)
    (h63 : n + k ≤ maxLen) (hbytes : (n + k) * bytes ≤ 140737488355328) :
    ∃ c' w', (Builtin.append_ #[T, tn] ty #[.slice (some ⟨g, 0, none⟩) n c, .int .i64 (k : Int)]).run P w = .ok (.slice (some ⟨w.heap.size, 0, none⟩) (n + k) c') w' ∧ Own w' w.heap.size E (.slice (some ⟨w.heap.size, 0, none⟩) (n + k) c') (xs ++ List.replicate k z) ∧ w.grownBy w' none := by
  obtain ⟨i, hi, hz, hsize, hby⟩ := el.info
  have hl := hown.len
  have hnc := hown.capLe'
  have hm63 : ((n + k : Nat) : Int) ≤ 9223372036854775807 := by unfold maxLen at h63; omega
  have hk48 : k * i.bytes ≤ 281474976710656 := by
    rw [hby]
    have : k * bytes ≤ (n + k) * bytes := Nat.mul_le_mul_right _ (by omega)
    omega
  have holds : ∀ j u, xs[j]? = some u → w.drew.cell? ((⟨g, 0, none⟩ : Addr).add j) = some u := fun j u hu => hown.cell hu
  have hold := run_firstCells_some (P := P) w.drew i.size n ⟨g, 0, none⟩ n c xs (by rw [hsize, Nat.mul_one, hl]) holds
  have hr := Lib.run_append_grow_zeros (P := P) w T tn ty E i z .i64 kn el.under htn hi hz (some ⟨g, 0, none⟩) n c xs hold k hk (by omega) (by omega) hm63 hk48 (by rw [hby]; exact growslice_fits (by omega) hbytes)
  have hge := grownCap_ge w (n + k) c E
  have hcm : grownCap w (n + k) c E ≤ maxLen := grownCap_le_maxLen w (n + k) c E h63
  have hlen : (xs ++ List.replicate k z).length = n + k := by simp [hl]
  have hzc : (Builtin.zeroCells z.cells k).toList = List.replicate k z := by rw [el.one]; exact zeroCells_one z k
  refine ⟨_, _, hr, ?_, ⟨rfl, rfl, rfl, by simp, fun j hj _ => by first | exact heap_alloc_old w.drew _ hj | exact Go.heap_alloc_old w.drew _ j hj⟩⟩
  unfold Own
  rw [hlen]
  refine ⟨by rw [hlen, Nat.mul_one], .inr ⟨w.heap.size, _, _, rfl, Nat.le_refl _, heap_alloc_new w.drew _, hge, hcm, ?_, ?_⟩⟩
  · rw [el.one]
    simp only [Array.size_append, size_zeroCells, List.size_toArray, List.length_cons, List.length_nil, hl]
    omega
  · simp only [Array.toList_append, hzc]
    rw [Nat.mul_one, ← hlen]
    exact List.take_left
end
/-- returned a slice that reads as xs; below base nothing has turned -/
def RetRb (w : World) (base : Nat) (xs : List Value) (e : Ending) (w' : World) : Prop := ∃ A m c, e = .returned (.slice A m c) ∧ Reads w' w'.heap.size A m xs ∧ Below base w w'
theorem one_vbI (l : List Bool) : ∀ u ∈ vb l, u.oneCell' = true := by
  intro u hu; obtain ⟨b, _, rfl⟩ := List.mem_map.1 hu; rfl
theorem splice_ins (l : List Bool) (i : Nat) (b : Bool) (y : Value) (hi : i < l.length) : splice (splice (vb l ++ [y]) (i + 1) (vb (l.drop i))) i [.bool b] = vb (insL l i b) := by
  have hl : (vb l).length = l.length := List.length_map _
  have hd : (vb (l.drop i)).length = l.length - i := by rw [List.length_map, List.length_drop]
  have h1 : (vb l ++ [y]).drop (i + 1 + (l.length - i)) = [] := List.drop_eq_nil_of_le (by rw [List.length_append, hl]; simp; omega)
  have h2 : splice (vb l ++ [y]) (i + 1) (vb (l.drop i)) = (vb l ++ [y]).take (i + 1) ++ vb (l.drop i) := by
    unfold splice
    rw [hd, h1, List.append_nil]
  have h3 : ((vb l ++ [y]).take (i + 1)).length = i + 1 := by rw [List.length_take, List.length_append, hl]; simp; omega
  rw [h2]
  unfold splice
  rw [List.take_append_of_le_length (by omega), List.take_take, show min i (i + 1) = i by omega, List.take_append_of_le_length (by omega)]
  have h4 : ((vb l ++ [y]).take (i + 1) ++ vb (l.drop i)).drop (i + [Value.bool b].length) = vb (l.drop i) := by
    rw [show i + [Value.bool b].length = i + 1 from rfl]
    conv => lhs; arg 1; rw [← h3]
    exact List.drop_left
  rw [h4]
  unfold insL vb
  rw [List.map_append, List.map_cons, List.map_take, List.map_drop]; simp
theorem splice_ins2 (l : List Bool) (i : Nat) (b : Bool) (hi : i < l.length) : splice (splice (List.take i (vb l) ++ List.replicate (l.length + 1 - i) (Value.bool false)) i [.bool b]) (i + 1) (vb (l.drop i)) = vb (insL l i b) := by
  have hl : (vb l).length = l.length := List.length_map _
  have hd : (vb (l.drop i)).length = l.length - i := by rw [List.length_map, List.length_drop]
  have ht : (List.take i (vb l)).length = i := by rw [List.length_take, hl]; omega
  have h1 : splice (List.take i (vb l) ++ List.replicate (l.length + 1 - i) (Value.bool false)) i [.bool b] = List.take i (vb l) ++ Value.bool b :: List.replicate (l.length - i) (Value.bool false) := by
    unfold splice
    have e1 : (List.take i (vb l) ++ List.replicate (l.length + 1 - i) (Value.bool false)).take i = List.take i (vb l) := by
      conv => lhs; arg 1; rw [← ht]
      exact List.take_left
    have e2 : (List.take i (vb l) ++ List.replicate (l.length + 1 - i) (Value.bool false)).drop (i + [Value.bool b].length) = List.replicate (l.length - i) (Value.bool false) := by
      rw [show i + [Value.bool b].length = i + 1 from rfl, List.drop_append, List.drop_eq_nil_of_le (by omega), ht, List.nil_append, List.drop_replicate]
      congr 1; omega
    rw [e1, e2]; simp
  rw [h1]
  unfold splice
  have e3 : (List.take i (vb l) ++ Value.bool b :: List.replicate (l.length - i) (Value.bool false)).take (i + 1) = List.take i (vb l) ++ [Value.bool b] := by
    rw [List.take_append, ht, List.take_of_length_le (by omega), show i + 1 - i = 1 by omega]; rfl
  have e4 : (List.take i (vb l) ++ Value.bool b :: List.replicate (l.length - i) (Value.bool false)).drop (i + 1 + (vb (l.drop i)).length) = [] := List.drop_eq_nil_of_le (by rw [hd]; simp; omega)
  rw [e3, e4, List.append_nil]
  unfold insL vb
  rw [List.map_append, List.map_cons, List.map_take, List.map_drop]; simp
theorem frozen_one_new (w : World) (v : Value) (T : TypeId) (k : Nat) : (w.alloc (.cells #[v] T)).frozen? ⟨w.heap.size, k, none⟩ = false := by
  unfold World.frozen?
  rw [heap_alloc_new]; simp
set_option maxRecDepth 100000 in
set_option maxHeartbeats 1600000 in
theorem insert_end (v : Value) (base n : Nat) (l : List Bool) (b : Bool) (w : World) (ho : Own w base 4 v (vb l)) (hn : l.length = n) (hn2 : n ≤ 1000) (hbase : base ≤ w.heap.size) :
    Calls Try.prog 65 #[v, .int .i64 (n : Int), .slice (some ⟨w.heap.size, 0, none⟩) 1 1] (w.alloc (.cells #[.bool b] 4)) (RetRb w base (vb (insL l n b))) := by
  have hl : (vb l).length = n := by rw [List.length_map, hn]
  obtain ⟨A, c, e⟩ := ho.form
  rw [hl] at e
  subst e
  have hc := ho.capLe'
  have HI : Hid (vb l ++ [Value.bool b] = vb (insL l n b)) := by unfold Hid insL; rw [← hn, List.take_length, List.drop_length]; simp [vb]
  have HLN := Lib.hid hl
  clear hl hn
  have i1 : (0 : Int) ≤ (n : Int) := by omega
  have i2 : n ≤ c := hc
  by_cases hcn : c = n
  all_goals
   go_enter Try.func65, Try.ntmps65
   go_wp2_with (at_builtin; refine app1 el_clone_bools rfl _ _ rfl rfl ho (.bool b) _ rfl rfl (by rw [HLN.out]; unfold maxLen; omega) (by rw [HLN.out]; omega) hbase ?_; intro v2 w2 ho2 hb2 _ _; rw [HI.out] at ho2)
   obtain ⟨A2, c2, e2⟩ := ho2.form
   obtain ⟨m2, hm2⟩ : ∃ m2, (vb (insL l n b)).length = m2 := ⟨_, rfl⟩
   rw [hm2] at e2
   clear hm2
   subst e2
   go_ret
   exact ⟨A2, m2, c2, rfl, ho2.reads, hb2⟩
set_option maxRecDepth 100000 in
set_option maxHeartbeats 1600000 in
theorem insert_room (base n c g i : Nat) (l : List Bool) (b : Bool) (w : World) (ho : Own w base 4 (.slice (some ⟨g, 0, none⟩) n c) (vb l)) (hin : i < n) (hn2 : n ≤ 1000) (hroom : n + 1 ≤ c) (hbase : base ≤ w.heap.size) :
    Calls Try.prog 65 #[.slice (some ⟨g, 0, none⟩) n c, .int .i64 (i : Int), .slice (some ⟨w.heap.size, 0, none⟩) 1 1] (w.alloc (.cells #[.bool b] 4)) (RetRb w base (vb (insL l i b))) := by
  have hln := ho.reads.bool_len
  have hcm := ho.capMax
  have hg : base ≤ g ∧ g < w.heap.size := by obtain ⟨g', e, h1, h2⟩ := ho.addr; injection e with e; subst e; exact ⟨h1, h2⟩
  obtain ⟨y, ho1⟩ := ho.ext1 hroom
  have HSP := Lib.hid (splice_ins l i b y (by omega))
  have hdl : (vb (l.drop i)).length = n - i := by rw [List.length_map, List.length_drop, hln]
  have hoA : Own (w.alloc (.cells #[.bool b] 4)) base 4 (.slice (some ⟨g, 0, none⟩) (n + 1) c) (vb l ++ [y]) := ho1.alloc _
  have hsrc : ∀ j v, (vb (l.drop i))[j]? = some v → ((w.alloc (.cells #[.bool b] 4)).drew).cell? ((⟨g, i, none⟩ : Addr).add j) = some v := by
    intro j v hv
    have hv2 : (vb l ++ [y])[i + j]? = some v := by
      rw [List.getElem?_append_left (by have := (List.getElem?_eq_some_iff.1 hv).1; rw [List.length_map]; omega)]
      rw [List.getElem?_map, List.getElem?_drop] at hv
      rw [List.getElem?_map]; exact hv
    have := hoA.cell hv2
    rw [add_row] at this
    have e : (⟨g, i, none⟩ : Addr).add j = ⟨g, i + j, none⟩ := by unfold Addr.add; split <;> simp_all
    rw [e]; exact this
  obtain ⟨w1, hc1, ho2, hg2⟩ := run_copy_putC (P := Try.prog) (w := (w.alloc (.cells #[.bool b] 4)).drew) 3 35 35 4 Try.underlying35 (by kernel_rfl) g (i + 1) (n - i) (c - (i + 1)) (n + 1 - i) (c - i) ⟨g, i, none⟩ hoA.drew (vb (l.drop i)) (by rw [hdl]; simp only [Nat.min_def]; split <;> omega) hsrc (by rw [hdl]; omega) (one_vbI _)
  have hnew : w1.cell? ⟨w.heap.size, 0, none⟩ = some (.bool b) := by
    have h1 : (w.alloc (.cells #[.bool b] 4)).cell? ⟨w.heap.size, 0, none⟩ = some (.bool b) := cell_one_new w (.bool b) 4 0 _ rfl
    refine (World.cell?_of_block (hg2.block w.heap.size (by show w.heap.size < (w.alloc _).heap.size; simp) (fun e => by injection e with e; omega))).trans h1
  obtain ⟨w2, hc2, ho3, hg3⟩ := run_copy_putC (P := Try.prog) (w := w1) 3 35 35 4 Try.underlying35 (by kernel_rfl) g i (n + 1 - i) (c - i) 1 1 ⟨w.heap.size, 0, none⟩ ho2 [.bool b] (by simp only [Nat.min_def]; split <;> simp <;> omega) (fun j v hv => by
    have : j = 0 := by have := (List.getElem?_eq_some_iff.1 hv).1; simpa using this
    subst this
    have : v = .bool b := by simpa using hv.symm
    subst this
    exact hnew) (by show i + 1 ≤ n + 1; omega) (by intro v hv; rw [List.mem_singleton.1 hv]; rfl)
  rw [HSP.out] at ho3
  have hov : ∀ lb cb, (callFunc 75 #[.slice (some ⟨w.heap.size, 0, none⟩) 1 1, .slice (some ⟨g, i + 1, none⟩) lb cb]).run Try.prog (w.alloc (.cells #[.bool b] 4)) = .ok (.value (.bool false)) (w.alloc (.cells #[.bool b] 4)) := fun lb cb => by
    rw [run_callFunc_extern (P := Try.prog) (fn := Try.f75) Try.func75 (by kernel_rfl) (by kernel_rfl) (by kernel_rfl) (e := Extern.SlicesOverlaps.overlaps #[35, 35] #[4]) (by kernel_rfl),
      Lib.run_overlaps_apart (w.alloc (.cells #[.bool b] 4)) 35 4 4 Try.underlying35 1 (fun w => by kernel_rfl) ⟨w.heap.size, 0, none⟩ ⟨g, i + 1, none⟩ 1 1 lb cb (by show w.heap.size ≠ g; omega) 4 4 1 c (by unfold World.shape?; rw [heap_alloc_new]; rfl) (ho.alloc _).shape (by omega) (frozen_one_new w (.bool b) 4 0) (frozen_one_new w (.bool b) 4 1)]
    rfl
  have hbw : Below base w w2 := ((((Below.refl base w).alloc hbase (.cells #[.bool b] 4)).grown ⟨hg2.os, hg2.tape, hg2.output, hg2.size, hg2.block⟩ (by show base ≤ (w.alloc _).heap.size; simp; omega) (fun k hk => by injection hk with hk; omega))).grown hg3 (by have := hg2.size; have h2 : w.heap.size + 1 ≤ w1.heap.size := (by simpa using this); omega) (fun k hk => by injection hk with hk; omega)
  clear hsrc hoA ho1
  have k1 : (0 : Int) ≤ (i : Int) := by omega
  have k2 : ((i : Int) == (n : Int)) = false := by simp; omega
  have k3 : ¬ (c : Int) < (n : Int) + 1 := by omega
  have k4 : ¬ c = i := by omega
  have k5 : ¬ c = i + 1 := by omega
  have k6 : i ≤ c := by omega
  have k7 : i ≤ n := by omega
  have k8 : i ≤ n + 1 := by omega
  have k9 : i + 1 ≤ n + 1 := by omega
  have k10 : (n : Int) + 1 ≤ (c : Int) := by omega
  have k11 : n + 1 ≤ c := hroom
  have k12 : IntKind.i64.wrap ((i : Int) + 1) = (i : Int) + 1 := IntWalk.i64_in _ (by omega)
  have k13 : ((i : Int) + 1).toNat = i + 1 := by omega
  have k14 : (0 : Int) ≤ (i : Int) + 1 := by omega
  have k15 : (i : Int) + 1 ≤ (n : Int) + 1 := by omega
  have k16 : (i : Int) ≤ (n : Int) + 1 := by omega
  have k17 : (i : Int) ≤ (n : Int) := by omega
  go_enter Try.func65, Try.ntmps65
  go_wp2_with (simp only [hov])
  go_region
  go_wp2
  go_ret
  exact ⟨_, n + 1, c, rfl, ho3.reads, hbw⟩
set_option maxRecDepth 100000 in
set_option maxHeartbeats 1600000 in
theorem insert_grow (base n c g i : Nat) (l : List Bool) (b : Bool) (w : World) (ho : Own w base 4 (.slice (some ⟨g, 0, none⟩) n c) (vb l)) (hin : i < n) (hn2 : n ≤ 1000) (hroom : c < n + 1) (hbase : base ≤ w.heap.size) :
    Calls Try.prog 65 #[.slice (some ⟨g, 0, none⟩) n c, .int .i64 (i : Int), .slice (some ⟨w.heap.size, 0, none⟩) 1 1] (w.alloc (.cells #[.bool b] 4)) (RetRb w base (vb (insL l i b))) := by
  have hln := ho.reads.bool_len
  have hcm := ho.capMax
  have hcn := ho.capLe'
  have hg : base ≤ g ∧ g < w.heap.size := by obtain ⟨g', e, h1, h2⟩ := ho.addr; injection e with e; subst e; exact ⟨h1, h2⟩
  have HSP := Lib.hid (splice_ins2 l i b (by omega))
  have hdl : (vb (l.drop i)).length = n - i := by rw [List.length_map, List.length_drop, hln]
  have ho1 := (ho.alloc (.cells #[.bool b] 4)).cutF (k := i) (by omega)
  obtain ⟨c', w1, ha1, ho2, hg1⟩ := run_appZ_grow el_clone_bools 35 Try.underlying3 ho1 (n + 1 - i) (by omega) (by omega) (by unfold maxLen; omega) (by omega)
  have hs1 : (w.alloc (.cells #[.bool b] 4)).heap.size = w.heap.size + 1 := by simp
  rw [hs1] at ha1 ho2
  rw [show i + (n + 1 - i) = n + 1 by omega] at ha1 ho2
  have hkeep : ∀ p : Addr, p.block < w.heap.size + 1 → w1.cell? p = (w.alloc (.cells #[.bool b] 4)).cell? p := fun p hp => World.cell?_of_block (hg1.block p.block (by rw [hs1]; exact hp) (by simp))
  have hnew : w1.cell? ⟨w.heap.size, 0, none⟩ = some (.bool b) := (hkeep _ (by show w.heap.size < _; omega)).trans (cell_one_new w (.bool b) 4 0 _ rfl)
  have hcap1 := ho2.capLe'
  obtain ⟨w2, hc2, ho3, hg3⟩ := run_copy_putC (P := Try.prog) (w := w1) 3 35 35 4 Try.underlying35 (by kernel_rfl) (w.heap.size + 1) i (n + 1 - i) (c' - i) 1 1 ⟨w.heap.size, 0, none⟩ ho2 [.bool b] (by simp only [Nat.min_def]; split <;> simp <;> omega) (fun j v hv => by
    have : j = 0 := by have := (List.getElem?_eq_some_iff.1 hv).1; simpa using this
    subst this
    have : v = .bool b := by simpa using hv.symm
    subst this
    exact hnew) (by show i + 1 ≤ n + 1; omega) (by intro v hv; rw [List.mem_singleton.1 hv]; rfl)
  have hsrc : ∀ j v, (vb (l.drop i))[j]? = some v → w2.drew.cell? ((⟨g, i, none⟩ : Addr).add j) = some v := by
    intro j v hv
    have hv2 : (vb l)[i + j]? = some v := by
      rw [List.getElem?_map, List.getElem?_drop] at hv
      rw [List.getElem?_map]; exact hv
    have := ho.cell hv2
    rw [add_row] at this
    have e : (⟨g, i, none⟩ : Addr).add j = ⟨g, i + j, none⟩ := by unfold Addr.add; split <;> simp_all
    rw [e]
    have hg4 := hg1.size
    rw [hs1] at hg4
    exact (World.cell?_of_block (hg3.block g (by omega) (fun e => by injection e with e; omega))).trans ((hkeep _ (by show g < _; omega)).trans ((World.cell?_alloc_lt w _ _ hg.2).trans this))
  obtain ⟨w3, hc3, ho4, hg4⟩ := run_copy_putC (P := Try.prog) (w := w2.drew) 3 35 35 4 Try.underlying35 (by kernel_rfl) (w.heap.size + 1) (i + 1) (n - i) (c' - (i + 1)) (n - i) (c - i) ⟨g, i, none⟩ ho3.drew (vb (l.drop i)) (by rw [hdl]; simp only [Nat.min_def]; split <;> omega) hsrc (by rw [hdl]; omega) (one_vbI _)
  have HE : Hid (splice (splice (List.take i (vb l) ++ List.replicate (n + 1 - i) (Value.bool false)) i [Value.bool b]) (i + 1) (vb (l.drop i)) = vb (insL l i b)) := by unfold Hid; rw [← hln]; exact HSP.out
  rw [HE.out] at ho4
  have hbw : Below base w w3 := by
    have b1 := (Below.refl base w).alloc hbase (.cells #[.bool b] 4)
    have b2 := b1.grown hg1 (Nat.le_trans hbase b1.size) (fun k hk => by cases hk)
    have b3 := b2.grown hg3 (Nat.le_trans hbase b2.size) (fun k hk => by injection hk with hk; omega)
    exact b3.grown ⟨hg4.os, hg4.tape, hg4.output, hg4.size, hg4.block⟩ (Nat.le_trans hbase b3.size) (fun k hk => by injection hk with hk; omega)
  clear hsrc ho1 hkeep
  have k1 : (0 : Int) ≤ (i : Int) := by omega
  have k2 : ((i : Int) == (n : Int)) = false := by simp; omega
  have k3 : (c : Int) < (n : Int) + 1 := by omega
  have k4 : ¬ c = i := by omega
  have k5 : ¬ c' = i + 1 := by omega
  have k5' : ¬ c' = i := by omega
  have k6 : i ≤ c := by omega
  have k6' : i ≤ c' := by omega
  have k7 : i ≤ n := by omega
  have k8 : i ≤ n + 1 := by omega
  have k9 : i + 1 ≤ n + 1 := by omega
  have k12 : IntKind.i64.wrap ((i : Int) + 1) = (i : Int) + 1 := IntWalk.i64_in _ (by omega)
  have k13 : ((i : Int) + 1).toNat = i + 1 := by omega
  have k14 : (0 : Int) ≤ (i : Int) + 1 := by omega
  have k15 : (i : Int) + 1 ≤ (n : Int) + 1 := by omega
  have k16 : (i : Int) ≤ (n : Int) + 1 := by omega
  have k17 : (i : Int) ≤ (n : Int) := by omega
  have k18 : (n : Int) + 1 - (i : Int) = ((n + 1 - i : Nat) : Int) := by omega
  have k19 : (i : Int) ≤ (c : Int) := by omega
  go_enter Try.func65, Try.ntmps65
  go_wp2_with (at_builtin; refine Lib.wpList_append_run _ rfl _ _ 35 3 rfl _ _ rfl rfl _ w1 ha1 ?_)
  go_region
  go_wp2
  go_ret
  exact ⟨_, n + 1, c', rfl, ho4.reads, hbw⟩
/-- one bit put in -/
theorem insert_bools (v : Value) (base n i : Nat) (l : List Bool) (b : Bool) (w : World) (ho : Own w base 4 v (vb l)) (hn : l.length = n) (hi : i ≤ n) (hn2 : n ≤ 1000) (hbase : base ≤ w.heap.size) :
    Calls Try.prog 65 #[v, .int .i64 (i : Int), .slice (some ⟨w.heap.size, 0, none⟩) 1 1] (w.alloc (.cells #[.bool b] 4)) (RetRb w base (vb (insL l i b))) := by
  rcases Nat.lt_or_ge i n with h1 | h1
  · obtain ⟨A, c, e⟩ := ho.form
    rw [List.length_map, hn] at e
    subst e
    obtain ⟨ad, rfl⟩ := ho.reads.addr (by omega)
    obtain ⟨g, rfl, _, _⟩ := ho.addr
    rcases Nat.lt_or_ge c (n + 1) with h2 | h2
    · exact insert_grow base n c g i l b w ho h1 hn2 h2 hbase
    · exact insert_room base n c g i l b w ho h1 hn2 h2 hbase
  · obtain rfl : i = n := by omega
    exact insert_end v base i l b w ho hn hn2 hbase
end Go.Proofs.Ythbmnaonnebnhaa

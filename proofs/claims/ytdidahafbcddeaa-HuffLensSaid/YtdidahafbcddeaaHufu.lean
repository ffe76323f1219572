/-
  huff.lens.
-/
import Derived.Test.YtdidahafbcddeaaHuft
import Derived.Test.YtdidahafbcddeaaBit64
import Derived.BigRegion
import Derived.Deep.RegionHeld3
import Derived.BigQuiet
import Derived.Deep.QuietTactic
import Derived.Deep.CutRange
import Derived.Deep.DeepCutAuto
set_option linter.unusedVariables false
namespace Go.Proofs.Ytdidahafbcddeaa
open Go.RowKit

theorem keepH {w W : World} {g a b c d : Nat} {x y z t : Value} (hb : Below w.heap.size w W) (hg : g < w.heap.size) (h0 : w.cell? ⟨g, a, none⟩ = some x) (h1 : w.cell? ⟨g, b, none⟩ = some y) (h2 : w.cell? ⟨g, c, none⟩ = some z) (h3 : w.cell? ⟨g, d, none⟩ = some t) :
    Below w.heap.size w W ∧ W.cell? ⟨g, a, none⟩ = some x ∧ W.cell? ⟨g, b, none⟩ = some y ∧ W.cell? ⟨g, c, none⟩ = some z ∧ W.cell? ⟨g, d, none⟩ = some t :=
  ⟨hb, (hb.cell (p := ⟨g, a, none⟩) hg).trans h0, (hb.cell (p := ⟨g, b, none⟩) hg).trans h1, (hb.cell (p := ⟨g, c, none⟩) hg).trans h2, (hb.cell (p := ⟨g, d, none⟩) hg).trans h3⟩
theorem Below.alloc0 {B : Nat} {w W : World} (h : Below B w W) (hB : B ≤ w.heap.size) (o : Obj) : Below B w (W.alloc o) := h.alloc (Nat.le_trans hB h.size) o
theorem hh_alloc (w : World) (o : Obj) (i : Nat) : (w.alloc o).heap[i]? = if i = w.heap.size then some o else w.heap[i]? := Array.getElem?_push
theorem hh_size (w : World) (o : Obj) : (w.alloc o).heap.size = w.heap.size + 1 := by simp
theorem hh_drew (w : World) : w.drew.heap = w.heap := rfl
/-- slices.Concat of two rows told by a block of two slices -/
theorem concat_in {A1 A2 : Option Addr} {n1 n2 c1 c2 b : Nat} {x1 x2 : List Value} (W : World) (h1 : Reads W W.heap.size A1 n1 x1) (h2 : Reads W W.heap.size A2 n2 x2) (hb : W.heap[b]? = some (.cells #[.slice A1 n1 c1, .slice A2 n2 c2] 32 (0, 0))) (o1 : ∀ u ∈ x1, u.oneCell' = true) (o2 : ∀ u ∈ x2, u.oneCell' = true) (hs : n1 + n2 ≤ 1000000) :
    Calls Try.prog 54 #[.slice (some ⟨b, 0, none⟩) 2 2] W (RetS W 3 (x1 ++ x2)) := by
  have hbx : BoxV W b 32 [.slice A1 n1 c1, .slice A2 n2 c2] := hb
  have hr : Rows W W.heap.size (some ⟨b, 0, none⟩) 2 [x1, x2] := by
    refine ⟨[.slice A1 n1 c1, .slice A2 n2 c2], ⟨rfl, fun _ => ⟨_, rfl, hbx.lt, fun j u hu => ?_⟩⟩, rfl, ?_⟩
    · rw [add_row]; exact hbx.cell hu
    · intro k xs hx
      match k with
      | 0 => simp at hx; subst hx; exact ⟨A1, n1, c1, rfl, h1⟩
      | 1 => simp at hx; subst hx; exact ⟨A2, n2, c2, rfl, h2⟩
      | k + 2 => simp at hx
  have l1 := h1.len
  have l2 := h2.len
  have := concat_ints _ 2 2 [x1, x2] W hr (by intro xs hx u hu; simp at hx; rcases hx with rfl | rfl; exact o1 u hu; exact o2 u hu) (by omega) (by simp; omega)
  simpa using this
theorem bump_app : ∀ (S S' L : List Nat), bump L (S ++ S') = bump (bump L S) S'
  | [], _, _ => rfl
  | s :: r, S', L => bump_app r S' _
theorem bump_le : ∀ (S L : List Nat) (j : Nat), (∀ s ∈ S, s < L.length) → (bump L S).getD j 0 ≤ L.getD j 0 + S.length
  | [], L, j, _ => by simp [bump]
  | s :: r, L, j, h => by
    have h1 := bump_le r (L.set s (L.getD s 0 + 1)) j (fun x hx => by rw [List.length_set]; exact h x (List.mem_cons_of_mem _ hx))
    rw [getD_set _ _ _ _ (h s (by simp))] at h1
    rw [bump, List.length_cons]
    split at h1
    · rename_i e; subst e; omega
    · omega
theorem HufI.small {ws : List Nat} {es : List Ent} {L : List Nat} (h : HufI ws es L) (h8 : ws.length ≤ 8) (hw : ∀ x ∈ ws, x ≤ 1048576) : ∀ e ∈ es, e.2.length ≤ 8 ∧ e.1 ≤ 8388608 := by
  intro e he
  obtain ⟨r, hr⟩ := mem_split_perm he
  have h1 := ((hr.map Prod.snd).flatten).length_eq
  rw [h.syms.length_eq, List.length_range, List.map_cons, List.flatten_cons, List.length_append] at h1
  have h2 : ∀ l : List Nat, (l.map fun i => ws.getD i 0).sum ≤ l.length * 1048576 := by
    intro l
    induction l with
    | nil => simp
    | cons x l ih =>
      have hx : ws.getD x 0 ≤ 1048576 := by
        rw [List.getD_eq_getElem?_getD]
        cases hx : ws[x]? with
        | none => simp
        | some y => exact hw y (List.mem_of_getElem? hx)
      simp only [List.map_cons, List.sum_cons, List.length_cons, Nat.succ_mul]
      omega
  refine ⟨by omega, ?_⟩
  rw [h.wt e he]
  have := h2 e.2
  have : e.2.length * 1048576 ≤ 8 * 1048576 := Nat.mul_le_mul_right _ (by omega)
  omega
theorem afterH {w w2 w3 W' : World} {lb b3 bb : Nat} {v V l : Value} {E : List HE} {L S1 S2 : List Nat} {vs : List Value} (hbW : Below w2.heap.size w2 w3) (hF : Forest w2 lb v E) (hO : Own w2 lb 3 l (vn .i64 L)) (hB : Below lb w w2) (ho3 : Own w3 b3 3 V (vn .i64 S1 ++ vn .i64 S2)) (h3 : lb + 1 ≤ b3) (hlb : lb < w2.heap.size)
    (hc : Ch w3 W' (fun b => b = bb)) (hbb : BoxV W' bb 78 vs) (h2 : w2.heap.size ≤ bb) (hnb : V.ownBlock ≠ some bb) :
    BoxV W' bb 78 vs ∧ Own W' (lb + 1) 3 V (vn .i64 (S1 ++ S2)) ∧ Forest W' lb v E ∧ Own W' lb 3 l (vn .i64 L) ∧ Below lb w W' := by
  have hb' : Below w2.heap.size w2 W' := hbW.trans (hc.below hbW.size (fun b _ e => by subst e; exact h2))
  refine ⟨hbb, ?_, hF.below hb', hO.below hb' (Nat.le_refl _), hB.trans (hb'.mono (by omega))⟩
  have := (ho3.low h3).ch hc (fun b hb e => hnb (by rw [hb, e]))
  rw [show vn .i64 (S1 ++ S2) = vn .i64 S1 ++ vn .i64 S2 by simp [vn]]
  exact this
theorem len_at {w : World} {B g m a : Nat} {E : TypeId} {T : List Nat} (h : Own w B E (.slice (some ⟨g, 0, none⟩) m m) (vn .i64 T)) (hl : T.length = m) (ha : a < m) : w.cell? ⟨g, a, none⟩ = some (.int .i64 ((T.getD a 0 : Nat) : Int)) := by
  have := h.cellAt (j := a) ha
  rw [add_row] at this
  rw [this]
  simp [vn, List.getD, List.getElem?_eq_getElem (show a < T.length by omega)]
/-- a tree was added -/
theorem afterA {w w5 : World} {lb : Nat} {v v5 l : Value} {R : List HE} {L S : List Nat} {e : HT} {W : World} (hF : Forest W lb v R) (hV : Own W (lb + 1) 3 (.slice e.A e.n e.c) (vn .i64 S)) (hL : Own W lb 3 l (vn .i64 L)) (hB : Below lb w W) (hlb : lb ≤ W.heap.size) (hg : W.grownBy w5 v.ownBlock) (ho : OwnQ w5 lb 78 2 v5 ((R ++ [(e, S)]).map fun e => encH e.1)) :
    Forest w5 lb v5 (R ++ [(e, S)]) ∧ Own w5 lb 3 l (vn .i64 L) ∧ Below lb w w5 := by
  have hcg := Ch.of_grown hg
  have hnt : ∀ b cur T, W.heap[b]? = some (.cells cur T (0, 0)) → T ≠ 78 → ¬ v.ownBlock = some b := fun b cur T e1 hT e2 => by
    obtain ⟨c2, e3⟩ := hF.row.ty e2
    exact ty_ne e1 e3 hT rfl
  refine ⟨⟨ho, fun x hx => ?_⟩, hL.ch hcg (fun b hb => by obtain ⟨c2, e2⟩ := hL.ty hb; exact hnt b _ _ e2 (by decide)), ?_⟩
  · rcases List.mem_append.1 hx with hx | hx
    · exact (hF.syms x hx).ch hcg (fun b hb => by obtain ⟨c2, e2⟩ := (hF.syms x hx).ty hb; exact hnt b _ _ e2 (by decide))
    · rw [List.mem_singleton.1 hx]
      exact hV.ch hcg (fun b hb => by obtain ⟨c2, e2⟩ := hV.ty hb; exact hnt b _ _ e2 (by decide))
  · exact hB.trans (hcg.below hlb (fun b _ e => (hF.row.lt b e).1))
def lenV : Value → Nat
  | .slice _ n _ => n
  | _ => 0
theorem Forest.len {w : World} {lb : Nat} {v : Value} {E : List HE} (h : Forest w lb v E) : ∃ A c, v = .slice A E.length c := by
  obtain ⟨A, c, e⟩ := h.row.form
  exact ⟨A, c, by rw [e, List.length_map]⟩
set_option maxRecDepth 100000 in
set_option maxHeartbeats 4000000 in
theorem huff_lens (A : Option Addr) (n c : Nat) (ws : List Nat) (w : World) (h : Reads w w.heap.size A n (vn .i64 ws)) (h8 : n ≤ 8) (hw : ∀ x ∈ ws, x ≤ 1048576) :
    Calls Try.prog 34 #[.slice A n c] w (fun e w' => ∃ L, e = .returned (.slice (some ⟨w.heap.size, 0, none⟩) n n) ∧ Own w' w.heap.size 3 (.slice (some ⟨w.heap.size, 0, none⟩) n n) (vn .i64 L) ∧ HufE ws L ∧ Below w.heap.size w w') := by
  have hln : ws.length = n := h.nat_len
  have HW := Lib.hid hw
  have HLN := Lib.hid hln
  have HR := Lib.hid h
  clear h hw hln
  go_enter Try.func34, Try.ntmps34
  go_wp2_with (at_make; refine mkN el_intH rfl _ _ rfl w.heap.size n rfl rfl rfl rfl (by omega) (by unfold maxLen; omega) (Nat.le_refl _) ?_; intro w1 ho1 hb1 hs1)
  rw [show List.replicate n (Value.int .i64 0) = vn .i64 (List.replicate n 0) by simp [vn]] at ho1
  have HO1 := Lib.hid ho1
  have HB1 := Lib.hid hb1
  clear ho1 hb1 hs1
  go_loopw [4, 15] (fun tv iv wr => ∃ (k : Nat) (E : List HE), k ≤ n ∧ iv = .int .i64 (k : Int) ∧ Forest wr w.heap.size tv E ∧ Hid (E.map entH = startE ws k) ∧ Own wr w.heap.size 3 (.slice (some ⟨w.heap.size, 0, none⟩) n n) (vn .i64 (List.replicate n 0)) ∧ Below w.heap.size w wr) (fun _ iv _ => n - (intOf iv).toNat)
  case atStart => exact ⟨0, [], Nat.zero_le _, rfl, ⟨OwnQ.nil _ _ _ _, fun e he => (by cases he)⟩, rfl, HO1.out, HB1.out⟩
  case round =>
    obtain ⟨k, E, hk, rfl, hfo, hE, hown, hbel⟩ := hrel
    obtain ⟨wo, rfl⟩ : ∃ x, x = wr := ⟨_, rfl⟩
    obtain ⟨tv, rfl⟩ : ∃ x, x = u4 := ⟨_, rfl⟩
    clear HO1 HB1
    by_cases hlt : k < n
    · obtain ⟨ad, x, rfl, hadb, hx, hc⟩ := (HR.out.below hbel).nat_at hlt
      have i0 : (0 : Int) ≤ (k : Int) := by omega
      have i1 : (k : Int) < (n : Int) := by omega
      have hsz := hbel.size
      have hlb : w.heap.size < wo.heap.size := (hown.lt _ rfl).2
      have hel : E.length = k := by have := congrArg List.length hE.out; simpa [startE] using this
      have hfo1 := hfo.alloc (.cells #[.int .i64 (k : Int)] 3)
      have hnew : Own (wo.alloc (.cells #[.int .i64 (k : Int)] 3)) (w.heap.size + 1) 3 (.slice (some ⟨wo.heap.size, 0, none⟩) 1 1) (vn .i64 [k]) := Own.built wo #[.int .i64 (k : Int)] 1 rfl (by unfold maxLen; omega) (by omega)
      have HFO := Lib.hid hfo1
      have HNEW := Lib.hid hnew
      have HOWN := Lib.hid (hown.alloc (.cells #[.int .i64 (k : Int)] 3))
      have HBEL := Lib.hid (hbel.alloc hsz (.cells #[.int .i64 (k : Int)] 3))
      have HYS : Hid (E.map (fun e => encH e.1) ++ [(#[Value.int .i64 (x : Int), .slice (some ⟨wo.heap.size, 0, none⟩) 1 1] : Array Value).toList] = (E ++ [((⟨x, some ⟨wo.heap.size, 0, none⟩, 1, 1⟩ : HT), [k])]).map fun e => encH e.1) := by unfold Hid; simp [encH]
      have HNX : Hid ((E ++ [((⟨x, some ⟨wo.heap.size, 0, none⟩, 1, 1⟩ : HT), [k])]).map entH = startE ws (k + 1)) := by
        unfold Hid
        rw [startE_next, List.map_append, hE.out]
        simp [entH, List.getD, hx]
      clear hfo hE hown hbel hfo1 hnew hx
      go_wp2_with (first
        | (refine app1Qs el_tree rfl (.tmp 20) (.tmp 25) rfl rfl HFO.out.row #[.int .i64 (x : Int), .slice (some ⟨wo.heap.size, 0, none⟩) 1 1] 78 ((E ++ [((⟨x, some ⟨wo.heap.size, 0, none⟩, 1, 1⟩ : HT), [k])]).map fun e => encH e.1) (k + 1) HYS (by simp [Hid, hel]) (by first | rfl | (go_simp; done) | (go_simp; rfl)) rfl (by intro u hu; simp only [List.mem_cons, List.not_mem_nil, or_false] at hu; rcases hu with rfl | rfl <;> rfl) (by unfold maxLen; omega) (by omega) (by have := HBEL.out.size; simp at this ⊢; omega) ?_; intro A5 c5 w5 ho5 hb5 hg5 hat5
           have hcg := Ch.of_grown hg5
           have hnt : ∀ b cur T, (wo.alloc (.cells #[.int .i64 (k : Int)] 3)).heap[b]? = some (.cells cur T (0, 0)) → T ≠ 78 → ¬ tv.ownBlock = some b := fun b cur T e1 hT e2 => by
             obtain ⟨c2, e3⟩ := HFO.out.row.ty e2
             exact ty_ne e1 e3 hT rfl
           have hfo5 : Forest w5 w.heap.size (.slice A5 (k + 1) c5) (E ++ [((⟨x, some ⟨wo.heap.size, 0, none⟩, 1, 1⟩ : HT), [k])]) := by
             refine ⟨ho5, fun e he => ?_⟩
             rcases List.mem_append.1 he with he | he
             · exact (HFO.out.syms e he).ch hcg (fun b hb => by obtain ⟨c2, e2⟩ := (HFO.out.syms e he).ty hb; exact hnt b _ _ e2 (by decide))
             · rw [List.mem_singleton.1 he]
               exact HNEW.out.ch hcg (fun b hb => by obtain ⟨c2, e2⟩ := HNEW.out.ty hb; exact hnt b _ _ e2 (by decide))
           have hown5 := HOWN.out.ch hcg (fun b hb => by obtain ⟨c2, e2⟩ := HOWN.out.ty hb; exact hnt b _ _ e2 (by decide))
           have HFO5 := Lib.hid hfo5
           have HOWN5 := Lib.hid hown5
           have HBEL5 := Lib.hid (HBEL.out.trans hb5)
           clear hfo5 hown5 hb5 ho5 hg5 hat5 hcg hnt HFO HNEW HOWN HBEL hel))
      go_roundw
      case rel => exact ⟨k + 1, _, by omega, by go_num, HFO5.out, HNX.out, HOWN5.out, HBEL5.out⟩
      case measure => simp [intOf] <;> omega
    · obtain rfl : n = k := by omega
      have hI : HufI ws (E.map entH) (List.replicate n 0) := by
        have := HufI.start ws
        rw [HLN.out] at this
        rw [hE.out]; exact this
      have HI := Lib.hid hI
      have HFO := Lib.hid hfo
      have HOWN := Lib.hid hown
      have HBEL := Lib.hid hbel
      clear hI hfo hE hown hbel hlt hk
      go_wp2
      go_loopw [4] (fun tv wr => ∃ (E : List HE) (L : List Nat), Forest wr w.heap.size tv E ∧ Hid (HufI ws (E.map entH) L) ∧ Own wr w.heap.size 3 (.slice (some ⟨w.heap.size, 0, none⟩) n n) (vn .i64 L) ∧ Below w.heap.size w wr) (fun tv _ => lenV tv)
      case atStart => exact ⟨E, _, HFO.out, HI.out, HOWN.out, HBEL.out⟩
      case round =>
        obtain ⟨E, L, hfo, hI, hown, hbel⟩ := hrel
        obtain ⟨wo, rfl⟩ : ∃ x, x = wr := ⟨_, rfl⟩
        obtain ⟨tv, rfl⟩ : ∃ x, x = u4 := ⟨_, rfl⟩
        clear HFO HI HOWN HBEL
        obtain ⟨TA, tc, rfl⟩ := hfo.len
        have hEn : E.length ≤ n := by have := hI.out.cost_len; rw [List.length_map, HLN.out] at this; exact this
        obtain ⟨N, hN⟩ : ∃ N, E.length = N := ⟨_, rfl⟩
        rw [hN] at hfo hEn ⊢
        by_cases h2 : 1 < N
        · obtain ⟨ad0, rfl, hsp, -, -, -⟩ := hfo.at_ (i := 0) (List.getElem?_eq_getElem (by omega))
          obtain ⟨g, off, sp⟩ := ad0
          obtain rfl : sp = none := hsp
          have cs := sort_trees (E.map Prod.fst).toArray g off N tc w.heap.size wo (by rw [show ((E.map Prod.fst).toArray.toList.map encH) = E.map fun e => encH e.1 by simp [Function.comp_def]]; exact hfo.row) (by simp [hN]) (by omega)
          have i2 : (1 : Int) < (N : Int) := by omega
          have HFO := Lib.hid hfo
          have HI := Lib.hid hI.out
          have HOWN := Lib.hid hown
          have HBEL := Lib.hid hbel
          have HN := Lib.hid hN
          clear hfo hI hown hbel hN
          go_wp2_with (go_at_call 51; refine cs.mono ?_; clear cs; rintro e w2 ⟨rfl, d', hp, hd, hso, hr2, hc2⟩)
          obtain ⟨E', hpE, hfE, hfo2⟩ := HFO.out.sorted hp hr2 hc2
          have hI2 := HI.out.perm (hpE.map entH)
          have hown2 := HOWN.out.ch hc2 (fun b hb e => by
            obtain ⟨cur, hcur⟩ := HOWN.out.ty hb
            obtain ⟨c2, e2⟩ := HFO.out.row.ty (g := g) rfl
            subst e
            exact ty_ne hcur e2 (by decide) rfl)
          have hbel2 := HBEL.out.trans (hc2.below HBEL.out.size (fun b hb e => by subst e; exact (HFO.out.row.lt b rfl).1))
          have hlen : E'.length = N := by rw [hpE.length_eq]; exact HN.out
          have hget : ∀ (i : Nat) (e : HE), E'[i]? = some e → d'[i]! = e.1 := fun i e he => by
            have h1 : d'.toList[i]? = some e.1 := by rw [← hfE, List.getElem?_map, he]; rfl
            obtain ⟨hi, hv⟩ := List.getElem?_eq_some_iff.1 h1
            rw [getElem!_pos d' i (by simpa using hi)]
            simpa using hv
          obtain ⟨e1, e2, R, rfl⟩ : ∃ e1 e2 R, E' = e1 :: e2 :: R := by
            match E', hlen with
            | [], h => simp at h; omega
            | [x], h => simp at h; omega
            | x :: y :: R, _ => exact ⟨x, y, R, rfl⟩
          have hle12 : e1.1.wt ≤ e2.1.wt := by
            have := hso 0 1 (by omega) (by omega)
            rw [hget 0 e1 rfl, hget 1 e2 rfl] at this
            exact this
          have hleR : ∀ e ∈ R, e2.1.wt ≤ e.1.wt := fun e he => by
            obtain ⟨j, hj⟩ := List.getElem?_of_mem he
            have hj2 : (e1 :: e2 :: R)[j + 2]? = some e := hj
            have := hso 1 (j + 2) (by omega) (by rw [← hlen]; exact (List.getElem?_eq_some_iff.1 hj2).1)
            rw [hget 1 e2 rfl, hget (j + 2) e hj2] at this
            exact this
          have hsm := hI2.small (by rw [HLN.out]; exact h8) HW.out
          have hs1 := hsm (entH e1) (by simp)
          have hs2 := hsm (entH e2) (by simp)
          have hstep := hI2.step (e1 := entH e1) (e2 := entH e2) (R := R.map entH) (by rw [HLN.out]; exact h8) hle12 (fun e he => by obtain ⟨x, hx, rfl⟩ := List.mem_map.1 he; exact hleR x hx)
          obtain ⟨⟨x1, A1, n1, c1⟩, S1⟩ := e1
          obtain ⟨⟨x2, A2, n2, c2⟩, S2⟩ := e2
          simp only [entH] at hs1 hs2 hstep
          have own1 := hfo2.syms _ (List.mem_cons_self ..)
          have own2 := hfo2.syms _ (List.mem_cons_of_mem _ (List.mem_cons_self ..))
          simp only at own1 own2
          obtain ⟨_, eg1, _, _, q0, q1⟩ := hfo2.at_ (i := 0) rfl
          obtain ⟨_, eg2, _, _, q2, q3⟩ := hfo2.at_ (i := 1) rfl
          injection eg1 with eg1
          injection eg2 with eg2
          subst eg1
          subst eg2
          simp only [Nat.zero_mul, Nat.one_mul, Nat.add_zero, Nat.zero_add, ← Nat.add_assoc] at q0 q1 q2 q3
          have HS1 := Lib.hid hs1; have HS2 := Lib.hid hs2
          have b1 : (x1 : Int) ≤ 8388608 := by have := hs1.2; omega
          have b2 : (x2 : Int) ≤ 8388608 := by have := hs2.2; omega
          have hsl1 := own1.reads.nat_len
          have hsl2 := own2.reads.nat_len
          have hgl : g < w2.heap.size := (hfo2.row.lt g rfl).2
          have hlb2 : w.heap.size < w2.heap.size := (hown2.lt _ rfl).2
          have n17 : n1 + n2 ≤ 1000000 := by rw [← hsl1, ← hsl2]; have := hs1.1; have := hs2.1; omega
          have hl8 : ∀ s ∈ S1 ++ S2, L.getD s 0 ≤ 8 := fun s hs => by
            rcases List.mem_append.1 hs with hs | hs
            · have h1 := hI2.lt (x1, S1) (by simp [entH]) s hs
              have := hs1.1
              simp only at h1
              omega
            · have h1 := hI2.lt (x2, S2) (by simp [entH]) s hs
              have := hs2.1
              simp only at h1
              omega
          have HL8 := Lib.hid hl8
          have hLl := hI2.len
          have HLL := Lib.hid hLl
          have HST := Lib.hid hstep
          have HF2 := Lib.hid hfo2
          have HO2 := Lib.hid hown2
          have HB2 := Lib.hid hbel2
          have OW1 := Lib.hid own1
          have OW2 := Lib.hid own2
          have HLEN := Lib.hid hlen
          have one1 : ∀ u ∈ vn .i64 S1, u.oneCell' = true := by intro u hu; obtain ⟨_, _, rfl⟩ := List.mem_map.1 hu; rfl
          have one2 : ∀ u ∈ vn .i64 S2, u.oneCell' = true := by intro u hu; obtain ⟨_, _, rfl⟩ := List.mem_map.1 hu; rfl
          have ONE1 := Lib.hid one1; have ONE2 := Lib.hid one2
          clear hl8 hLl hp hd hso hr2 hc2 hpE hfE hfo2 hI2 hown2 hbel2 hlen hget hle12 hleR hsm hs1 hs2 hstep own1 own2 hsl1 hsl2 one1 one2 HFO HI HOWN HBEL HN
          have hx12 : IntKind.i64.wrap ((x1 : Int) + (x2 : Int)) = (x1 : Int) + (x2 : Int) := by rw [IntKind.wrap_i64]; omega
          go_cut [7] (fun bv wc => ∃ (bb : Nat) (A3 : Option Addr) (n3 c3 : Nat), bv = .pointer (some ⟨bb, 0, none⟩) ∧ BoxV wc bb 78 [.int .i64 ((x1 : Int) + (x2 : Int)), .slice A3 n3 c3] ∧ Own wc (w.heap.size + 1) 3 (.slice A3 n3 c3) (vn .i64 (S1 ++ S2)) ∧ Forest wc w.heap.size (.slice (some ⟨g, off, none⟩) N tc) (((⟨x1, A1, n1, c1⟩ : HT), S1) :: ((⟨x2, A2, n2, c2⟩ : HT), S2) :: R) ∧ Own wc w.heap.size 3 (.slice (some ⟨w.heap.size, 0, none⟩) n n) (vn .i64 L) ∧ Below w.heap.size w wc)
          case first =>
            go_region_held3 (fun W => Below w2.heap.size w2 W ∧ W.cell? ⟨g, off, none⟩ = some (.int .i64 (x1 : Int)) ∧ W.cell? ⟨g, off + 1, none⟩ = some (.slice A1 n1 c1) ∧ W.cell? ⟨g, off + 2, none⟩ = some (.int .i64 (x2 : Int)) ∧ W.cell? ⟨g, off + 2 + 1, none⟩ = some (.slice A2 n2 c2))
              ((go_split_ands; first
                | exact keepH (Below.refl _ _).drew hgl q0 q1 q2 q3
                | exact keepH (Below.alloc0 (by assumption) (Nat.le_refl _) _) hgl q0 q1 q2 q3
                | exact keepH (Below.trans (by assumption) (hb3.mono (Below.size (by assumption)))) hgl q0 q1 q2 q3
                | exact keepH (hbW.alloc0 (Nat.le_refl _) _) hgl q0 q1 q2 q3
                | exact keepH ((hbW.setCell (p := ⟨w2.heap.size, 0, none⟩) (Nat.le_refl _) _).setCell (p := ⟨w2.heap.size, 1, none⟩) (Nat.le_refl _) _) hgl q0 q1 q2 q3
                | exact keepH ((hbW.setCell (p := ⟨w2.heap.size + 1, 0, none⟩) (Nat.le_succ _) _).setCell (p := ⟨w2.heap.size + 1, 1, none⟩) (Nat.le_succ _) _) hgl q0 q1 q2 q3))
              (first
                | (go_at_call 54; refine (concat_in (c1 := c1) (c2 := c2) _ (by go_split_ands; exact (OW1.out.below (by assumption) (Nat.le_refl _)).reads) (by go_split_ands; exact (OW2.out.below (by assumption) (Nat.le_refl _)).reads) (by (simp only [hh_drew, hh_alloc]; try simp only [hh_size]; repeat (first | rw [if_pos trivial] | rw [if_pos (by omega)] | rw [if_neg (by omega)])); first | done | rfl) ONE1.out ONE2.out n17).mono ?_; rintro e w3 ⟨A3, n3, c3, rfl, ho3, hb3⟩
                   have hbW : Below w2.heap.size w2 w3 := by (go_split_ands; exact Below.trans (by assumption) (hb3.mono (Below.size (by assumption))))
                   first
                   | (have hz0 : BoxV ((w2.alloc (.cells #[.slice A1 n1 c1, .slice A2 n2 c2] 32)).alloc (.cells #[.int .i64 0, .slice none 0 0] 78)) (w2.heap.size + 1) 78 [.int .i64 0, .slice none 0 0] := by (have := BoxV.new (w2.alloc (.cells #[.slice A1 n1 c1, .slice A2 n2 c2] 32)) [.int .i64 0, .slice none 0 0] 78; simpa using this)
                      have hz : BoxV w3 (w2.heap.size + 1) 78 [.int .i64 0, .slice none 0 0] := hz0.drew.below hb3
                      have z0 := hz.cell (j := 0) rfl; have z1 := hz.cell (j := 1) rfl; have z2 := hz.free 0; have z3 := hz.free 1
                      clear hz0)
                   | (have hz : BoxV w3 w2.heap.size 78 [.int .i64 0, .slice none 0 0] := (show BoxV ((w2.alloc (.cells #[.int .i64 0, .slice none 0 0] 78)).alloc (.cells #[.slice A1 n1 c1, .slice A2 n2 c2] 32)).drew w2.heap.size 78 [.int .i64 0, .slice none 0 0] from (BoxV.new w2 [.int .i64 0, .slice none 0 0] 78).alloc (.cells #[.slice A1 n1 c1, .slice A2 n2 c2] 32)).below hb3
                      have z0 := hz.cell (j := 0) rfl; have z1 := hz.cell (j := 1) rfl; have z2 := hz.free 0; have z3 := hz.free 1)
                   | skip))
            all_goals (try go_wp2_with fail)
            all_goals go_meet
            all_goals first
              | exact ⟨_, A3, n3, c3, rfl, afterH hbW HF2.out HO2.out HB2.out ho3 (by simp; omega) hlb2 (((Ch.refl w3 (fun b => b = w2.heap.size + 1)).setCell (w2.heap.size + 1) 0 (.int .i64 ((x1 : Int) + (x2 : Int))) (fun _ => rfl)).setCell (w2.heap.size + 1) 1 (.slice A3 n3 c3) (fun _ => rfl)) ((hz.set 0 (.int .i64 ((x1 : Int) + (x2 : Int)))).set 1 (.slice A3 n3 c3)) (Nat.le_succ _) (ho3.notBox hz (by decide))⟩
              | exact ⟨_, A3, n3, c3, rfl, afterH hbW HF2.out HO2.out HB2.out ho3 (by simp; omega) hlb2 (((Ch.refl w3 (fun b => b = w2.heap.size)).setCell w2.heap.size 0 (.int .i64 ((x1 : Int) + (x2 : Int))) (fun _ => rfl)).setCell w2.heap.size 1 (.slice A3 n3 c3) (fun _ => rfl)) ((hz.set 0 (.int .i64 ((x1 : Int) + (x2 : Int)))).set 1 (.slice A3 n3 c3)) (Nat.le_refl _) (ho3.notBox hz (by decide))⟩
              | exact ⟨_, A3, n3, c3, rfl, afterH hbW HF2.out HO2.out HB2.out ho3 (by simp; omega) hlb2 ((Ch.refl w3 _).alloc _) (BoxV.new w3 [.int .i64 ((x1 : Int) + (x2 : Int)), .slice A3 n3 c3] 78) hbW.size (fun e => by have := (ho3.lt _ e).2; omega)⟩
          case rest =>
            obtain ⟨bb, A3, n3, c3, rfl, hbb, hw3, hf3, ho3, hb3⟩ := hcut
            have hn3 := hw3.reads.nat_len
            have hn16 : n3 ≤ 16 := by rw [← hn3, List.length_append]; have := HS1.out.1; have := HS2.out.1; omega
            have p1 := hbb.cell (j := 1) rfl
            have HBB := Lib.hid hbb; have HW3 := Lib.hid hw3; have HF3 := Lib.hid hf3; have HO3 := Lib.hid ho3; have HB3 := Lib.hid hb3; have HN3 := Lib.hid hn3
            clear hbb hw3 hf3 ho3 hb3 hn3 q0 q1 q2 q3 hx12
            go_wp2
            clear p1
            go_loopw [56] (fun jv wr => ∃ j : Nat, j ≤ n3 ∧ jv = .int .i64 (j : Int) ∧ Own wr w.heap.size 3 (.slice (some ⟨w.heap.size, 0, none⟩) n n) (vn .i64 (bump L ((S1 ++ S2).take j))) ∧ Forest wr w.heap.size (.slice (some ⟨g, off, none⟩) N tc) (((⟨x1, A1, n1, c1⟩ : HT), S1) :: ((⟨x2, A2, n2, c2⟩ : HT), S2) :: R) ∧ Own wr (w.heap.size + 1) 3 (.slice A3 n3 c3) (vn .i64 (S1 ++ S2)) ∧ BoxV wr bb 78 [.int .i64 ((x1 : Int) + (x2 : Int)), .slice A3 n3 c3] ∧ Below w.heap.size w wr) (fun jv _ => n3 - (intOf jv).toNat)
            case atStart => exact ⟨0, Nat.zero_le _, rfl, HO3.out, HF3.out, HW3.out, HBB.out, HB3.out⟩
            case round =>
              obtain ⟨j, hj, rfl, hl, hf, hw4, hbb, hb⟩ := hrel
              obtain ⟨w4, rfl⟩ : ∃ x, x = wr := ⟨_, rfl⟩
              clear HO3 HF3 HW3 HBB HB3
              by_cases hjl : j < n3
              · obtain ⟨ad3, s, rfl, hadb, hx, hc⟩ := hw4.reads.nat_at hjl
                have hsm : s ∈ S1 ++ S2 := List.mem_of_getElem? hx
                have hsn : s < n := by
                  have := HST.out.inR (e := (x1 + x2, S1 ++ S2)) (by simp) hsm
                  rw [HLN.out] at this; exact this
                have hs8 := HL8.out s hsm
                have hble := bump_le ((S1 ++ S2).take j) L s (fun x hx => by
                  have := HST.out.inR (e := (x1 + x2, S1 ++ S2)) (by simp) (List.mem_of_mem_take hx)
                  rw [HLL.out]; exact this)
                have hjle : ((S1 ++ S2).take j).length ≤ 16 := by
                  rw [List.length_take, List.length_append]
                  have := HS1.out.1; have := HS2.out.1; omega
                have hlen' : (bump L ((S1 ++ S2).take j)).length = n := by rw [bump_len, HLL.out, HLN.out]
                have hnx : bump L ((S1 ++ S2).take (j + 1)) = (bump L ((S1 ++ S2).take j)).set s ((bump L ((S1 ++ S2).take j)).getD s 0 + 1) := by
                  rw [take_next hx, bump_app]; rfl
                have u1 := len_at hl hlen' hsn
                have u2 := hl.frozenAt s
                rw [add_row] at u2
                obtain ⟨x, hxv⟩ : ∃ x, (bump L ((S1 ++ S2).take j)).getD s 0 = x := ⟨_, rfl⟩
                rw [hxv] at u1 hble hnx
                have hset := hl.set s (.int .i64 ((x + 1 : Nat) : Int))
                rw [add_row, vn_set, ← hnx] at hset
                obtain ⟨lcur, hlcur⟩ := hl.ty rfl
                have HL4 := Lib.hid hset
                have HF4 := Lib.hid (hf.setLen s (.int .i64 ((x + 1 : Nat) : Int)) ⟨lcur, hlcur⟩)
                have HW4 := Lib.hid (hw4.setOther ⟨w.heap.size, s, none⟩ (.int .i64 ((x + 1 : Nat) : Int)) (fun e => by have := (hw4.lt _ e).1; simp at this; omega))
                have HBB4 := Lib.hid (hbb.setOther (c := w.heap.size) (j := s) (.int .i64 ((x + 1 : Nat) : Int)) (ty_ne hbb hlcur (by decide)))
                have HB4 := Lib.hid (hb.setCell (p := ⟨w.heap.size, s, none⟩) (Nat.le_refl _) (.int .i64 ((x + 1 : Nat) : Int)))
                have j0 : (0 : Int) ≤ (j : Int) := by omega
                have j1 : (j : Int) < (n3 : Int) := by omega
                have j2 : (0 : Int) ≤ (s : Int) := by omega
                have j3 : (s : Int) < (n : Int) := by omega
                have j4 : (x : Int) ≤ 24 := by omega
                clear hl hf hw4 hbb hb hx hsm hs8 hble hjle hlen' hnx hxv hset hlcur
                go_wp2
                go_roundw
                case rel => exact ⟨j + 1, by omega, by go_num, HL4.out, HF4.out, HW4.out, HBB4.out, HB4.out⟩
                case measure => simp [intOf] <;> omega
              · obtain rfl : n3 = j := by omega
                have htk : (S1 ++ S2).take n3 = S1 ++ S2 := by rw [← HN3.out]; exact List.take_length
                rw [htk] at hl
                obtain ⟨ad', ead, _, hNR, hcap, htl⟩ := hf.row.tail2
                injection ead with ead
                subst ead
                rw [List.length_map] at hNR hcap htl
                have z0 := hbb.cell (j := 0) rfl; have z1 := hbb.cell (j := 1) rfl
                have HYS : Hid ((R.map fun e => encH e.1) ++ [[.int .i64 ((x1 : Int) + (x2 : Int)), .slice A3 n3 c3]] = (R ++ [((⟨x1 + x2, A3, n3, c3⟩ : HT), S1 ++ S2)]).map fun e => encH e.1) := by unfold Hid; simp [encH]
                have HNEW : Hid (∀ j u, [Value.int .i64 ((x1 : Int) + (x2 : Int)), .slice A3 n3 c3][j]? = some u → (w4.alloc (.cells #[.int .i64 ((x1 : Int) + (x2 : Int)), .slice A3 n3 c3] 78)).drew.cell? ((⟨w4.heap.size, 0, none⟩ : Addr).add j) = some u) := fun j u hu => by
                  rw [add_row]; exact (BoxV.new w4 [.int .i64 ((x1 : Int) + (x2 : Int)), .slice A3 n3 c3] 78).cell hu
                have HIN : Hid (HufI ws ((R ++ [((⟨x1 + x2, A3, n3, c3⟩ : HT), S1 ++ S2)]).map entH) (bump L (S1 ++ S2))) := by
                  unfold Hid; rw [List.map_append]; exact HST.out
                have key : ∀ Y : Value, OwnQ w4 w.heap.size 78 2 Y (R.map fun e => encH e.1) → Forest w4 w.heap.size Y R := fun Y hY => ⟨hY, fun e he => hf.syms e (by simp [he])⟩
                have HN3b : Hid (1 ≤ N) := by unfold Hid; omega
                by_cases hc2 : tc = 2
                · subst hc2
                  rw [if_pos rfl] at htl
                  have hR : R = [] := List.eq_nil_of_length_eq_zero (by omega)
                  subst hR
                  obtain rfl : N = 2 := hNR
                  have HFT := Lib.hid ((key _ htl).alloc (.cells #[.int .i64 ((x1 : Int) + (x2 : Int)), .slice A3 n3 c3] 78)).drew
                  have HL4 := Lib.hid (hl.alloc (.cells #[.int .i64 ((x1 : Int) + (x2 : Int)), .slice A3 n3 c3] 78)).drew
                  have HW4 := Lib.hid (hw4.alloc (.cells #[.int .i64 ((x1 : Int) + (x2 : Int)), .slice A3 n3 c3] 78)).drew
                  have HB4 := Lib.hid hb
                  have hbA := hbb.alloc (.cells #[.int .i64 ((x1 : Int) + (x2 : Int)), .slice A3 n3 c3] 78)
                  have z4 := hbA.cell (j := 0) rfl; have z5 := hbA.cell (j := 1) rfl
                  clear hl hf hw4 hbb hb key htl htk hbA
                  go_wp2
                  go_region_law (refine step_appQs el_tree rfl (.tmp 68) (.tmp 70) rfl (by first | rfl | (go_simp; done) | (go_simp; rfl)) HFT.out.row ⟨w4.heap.size, 0, none⟩ 1 [.int .i64 ((x1 : Int) + (x2 : Int)), .slice A3 n3 c3] (([] ++ [((⟨x1 + x2, A3, n3, c3⟩ : HT), S1 ++ S2)] : List HE).map fun e => encH e.1) (1) HYS (by simp [Hid]) (by first | rfl | (go_simp; done) | (go_simp; rfl)) rfl HNEW.out (by intro u hu; simp only [List.mem_cons, List.not_mem_nil, or_false] at hu; rcases hu with rfl | rfl <;> rfl) (by unfold maxLen; omega) (by omega) (by have := HB4.out.size; simp; omega) ?_; intro A5 c5 w5 ho5 hg5 hat5)
                  all_goals
                    obtain ⟨hf5, hl5, hb5⟩ := afterA HFT.out HW4.out HL4.out (HB4.out.alloc HB4.out.size (.cells #[.int .i64 ((x1 : Int) + (x2 : Int)), .slice A3 n3 c3] 78)).drew (by have := HB4.out.size; simp; omega) hg5 ho5
                    have HF5 := Lib.hid hf5
                    have HL5 := Lib.hid hl5
                    have HB5 := Lib.hid hb5
                    clear hf5 hl5 hb5 ho5 hg5 hat5
                    go_wp2
                    go_roundw
                    case rel => first | exact ⟨_, _, HF5.out, HIN.out, HL5.out, HB5.out⟩ | ((repeat apply Exists.intro); exact ⟨⟨HF5.out, HIN.out, HL5.out, HB5.out⟩, rfl⟩) | ((repeat apply Exists.intro); exact ⟨⟨_, _, HF5.out, HIN.out, HL5.out, HB5.out⟩, rfl⟩)
                    case measure => show (1 : Nat) < 2; omega
                · rw [if_neg hc2, show R.length = N - 2 by omega] at htl
                  simp only [show 2 * 2 = 4 from rfl] at htl
                  have hN2 : (2 : Int) ≤ (N : Int) := by omega
                  have hN3 : 2 ≤ N := by omega
                  have hNc : (N : Int) ≤ (tc : Int) := by omega
                  have hRl : R.length + 2 ≤ N := by omega
                  have HFT := Lib.hid ((key _ htl).alloc (.cells #[.int .i64 ((x1 : Int) + (x2 : Int)), .slice A3 n3 c3] 78)).drew
                  have HL4 := Lib.hid (hl.alloc (.cells #[.int .i64 ((x1 : Int) + (x2 : Int)), .slice A3 n3 c3] 78)).drew
                  have HW4 := Lib.hid (hw4.alloc (.cells #[.int .i64 ((x1 : Int) + (x2 : Int)), .slice A3 n3 c3] 78)).drew
                  have HB4 := Lib.hid hb
                  have hbA := hbb.alloc (.cells #[.int .i64 ((x1 : Int) + (x2 : Int)), .slice A3 n3 c3] 78)
                  have z4 := hbA.cell (j := 0) rfl; have z5 := hbA.cell (j := 1) rfl
                  have HNR := Lib.hid hNR
                  have hcap' : 2 ≤ tc := by omega
                  clear hl hf hw4 hbb hb key htl htk hbA hNR
                  go_wp2
                  go_region_law (refine step_appQs el_tree rfl (.tmp 68) (.tmp 70) rfl (by first | rfl | (go_simp; done) | (go_simp; rfl)) HFT.out.row ⟨w4.heap.size, 0, none⟩ 1 [.int .i64 ((x1 : Int) + (x2 : Int)), .slice A3 n3 c3] ((R ++ [((⟨x1 + x2, A3, n3, c3⟩ : HT), S1 ++ S2)]).map fun e => encH e.1) (R.length + 1) HYS (by simp [Hid]) (by first | rfl | (go_simp; done) | (go_simp; rfl)) rfl HNEW.out (by intro u hu; simp only [List.mem_cons, List.not_mem_nil, or_false] at hu; rcases hu with rfl | rfl <;> rfl) (by unfold maxLen; omega) (by omega) (by have := HB4.out.size; simp; omega) ?_; intro A5 c5 w5 ho5 hg5 hat5)
                  all_goals
                    obtain ⟨hf5, hl5, hb5⟩ := afterA HFT.out HW4.out HL4.out (HB4.out.alloc HB4.out.size (.cells #[.int .i64 ((x1 : Int) + (x2 : Int)), .slice A3 n3 c3] 78)).drew (by have := HB4.out.size; simp; omega) hg5 ho5
                    have HF5 := Lib.hid hf5
                    have HL5 := Lib.hid hl5
                    have HB5 := Lib.hid hb5
                    clear hf5 hl5 hb5 ho5 hg5 hat5
                    go_wp2
                    go_roundw
                    case rel => first | exact ⟨_, _, HF5.out, HIN.out, HL5.out, HB5.out⟩ | ((repeat apply Exists.intro); exact ⟨⟨HF5.out, HIN.out, HL5.out, HB5.out⟩, rfl⟩) | ((repeat apply Exists.intro); exact ⟨⟨_, _, HF5.out, HIN.out, HL5.out, HB5.out⟩, rfl⟩)
                    case measure => show R.length + 1 < N; omega
        · have hE1 : E.length ≤ 1 := by omega
          have hdone := hI.out.done (by rw [List.length_map]; exact hE1)
          have i2 : ¬ (1 : Int) < (N : Int) := by omega
          have HD := Lib.hid hdone
          have HOWN := Lib.hid hown
          have HBEL := Lib.hid hbel
          clear hfo hI hown hbel hN hdone hE1
          go_wp2
          go_ret
          exact ⟨rfl, L, HOWN.out, HD.out, HBEL.out⟩
end Go.Proofs.Ytdidahafbcddeaa

import Derived.Test.YtmepiiheidmbgaaKrafto
set_option linter.unusedVariables false
namespace Go.Proofs.Ytmepiiheidmbgaa
open Go.RowKit Go.Shelf Go.Sort

/-- which symbols have been given words -/
def prS (ns : List Nat) (s i j : Nat) : Bool := decide (ns.getD j 0 < s ∨ ns.getD j 0 = s ∧ j < i)
theorem kmP_congr (ns : List Nat) {p q : Nat → Bool} (h : ∀ j, j < ns.length → p j = q j) : kmP ns p = kmP ns q := by
  unfold kmP
  apply List.map_congr_left
  intro j hj
  rw [h j (List.mem_range.1 hj)]
theorem kmP_at (ns : List Nat) (p : Nat → Bool) {j : Nat} (hj : j < ns.length) (hp : p j = true) : (kmP ns p)[j]? = some (kmW ns j) := by
  unfold kmP; rw [List.getElem?_map, List.getElem?_range hj]; simp [hp]
structure StS (ns : List Nat) (s i : Nat) (gl : List Nat) : Prop where
  inv : InvB (gl.map (kmW ns)) (atS ns s i) s
  lt : ∀ j ∈ gl, j < ns.length ∧ prS ns s i j = true
  len : gl.length ≤ s * 8 + i
theorem StS.start (ns : List Nat) : StS ns 0 0 [] := ⟨by rw [atS_zero]; exact InvB_nil, by simp, by simp⟩
theorem StS.skip {ns gl : List Nat} {s i : Nat} (h : StS ns s i gl) (hs : ns.getD i 0 ≠ s) : StS ns s (i + 1) gl :=
  ⟨by rw [atS_other hs]; exact h.inv, fun j hj => ⟨(h.lt j hj).1, by have := (h.lt j hj).2; unfold prS at *; simp only [decide_eq_true_eq] at *; omega⟩, by have := h.len; omega⟩
theorem StS.next {ns gl : List Nat} {s : Nat} (h : StS ns s ns.length gl) (hn : ns.length ≤ 8) : StS ns (s + 1) 0 gl :=
  ⟨by rw [← atS_end]; exact InvB_more h.inv (by omega), fun j hj => ⟨(h.lt j hj).1, by have := (h.lt j hj).2; have := (h.lt j hj).1; unfold prS at *; simp only [decide_eq_true_eq] at *; omega⟩, by have := h.len; omega⟩
theorem x0_lt {ns : List Nat} {s i : Nat} (hi : i < ns.length) (hs : ns.getD i 0 = s) (hs8 : s ≤ 8) (hT : kTot ns ≤ 256) : atS ns s i / 2 ^ (8 - s) < 2 ^ s := by
  have h := atS_room hi
  rw [hs] at h
  have e := atS_div (ns := ns) (s := s) (i := i) hs8
  have hp := Nat.pow_pos (n := 8 - s) (show 0 < 2 by omega)
  have e2 : 2 ^ s * 2 ^ (8 - s) = 256 := by rw [← Nat.pow_add, show s + (8 - s) = 8 by omega]
  refine Nat.lt_of_mul_lt_mul_right (a := 2 ^ (8 - s)) ?_
  rw [e, e2]; omega
theorem StS.take {ns gl : List Nat} {s i : Nat} (h : StS ns s i gl) (hi : i < ns.length) (hs : ns.getD i 0 = s) (hs8 : s ≤ 8) (hT : kTot ns ≤ 256) : StS ns s (i + 1) (gl ++ [i]) := by
  have hw : kmW ns i = digitsL (atS ns s i / 2 ^ (8 - s)) s := by unfold kmW; rw [hs]
  refine ⟨?_, fun j hj => ?_, by have := h.len; simp; omega⟩
  · rw [List.map_append, List.map_cons, List.map_nil, hw, atS_same hi hs]
    exact InvB_step h.inv hs8 (x0_lt hi hs hs8 hT) (atS_div hs8).symm
  · rcases List.mem_append.1 hj with h1 | h1
    · refine ⟨(h.lt j h1).1, ?_⟩
      have := (h.lt j h1).2; unfold prS at *; simp only [decide_eq_true_eq] at *; omega
    · rw [List.mem_singleton.1 h1]
      refine ⟨hi, ?_⟩
      unfold prS; simp only [decide_eq_true_eq]; omega
theorem prS_skip {ns : List Nat} {s i : Nat} (hs : ns.getD i 0 ≠ s) (j : Nat) : prS ns s i j = prS ns s (i + 1) j := by
  unfold prS
  rw [Bool.eq_iff_iff]; simp only [decide_eq_true_eq]
  by_cases e : j = i
  · subst e; omega
  · omega
theorem prS_next {ns : List Nat} {s j : Nat} (hj : j < ns.length) : prS ns s ns.length j = prS ns (s + 1) 0 j := by
  unfold prS
  rw [Bool.eq_iff_iff]; simp only [decide_eq_true_eq]; omega
theorem prS_take {ns : List Nat} {s i : Nat} (hs : ns.getD i 0 = s) (j : Nat) : prS ns s (i + 1) j = (prS ns s i j || decide (j = i)) := by
  unfold prS
  rw [Bool.eq_iff_iff]; simp only [decide_eq_true_eq, Bool.or_eq_true]
  by_cases e : j = i
  · subst e; omega
  · omega
theorem OwnR.ltO {w : World} {base n c g : Nat} {E : TypeId} {xss : List (List Value)} (h : OwnR w base E (.slice (some ⟨g, 0, none⟩) n c) xss) : g < w.heap.size := by
  obtain ⟨vs, hv, _⟩ := h; exact (Own.lt hv g rfl).2
/-- no row lies in the block q -/
def Apart (w : World) (cg n : Nat) (q : Option Nat) : Prop := ∀ k a m c, k < n → w.cell? ⟨cg, k, none⟩ = some (.slice (some a) m c) → q ≠ some a.block
theorem Apart.nil (w : World) (cg n : Nat) : Apart w cg n none := fun _ _ _ _ _ _ e => by cases e
theorem Apart.below {w w' : World} {cg n B : Nat} {q : Option Nat} (h : Apart w cg n q) (hb : RowKit.Below B w w') (hc : cg < B) : Apart w' cg n q := fun k a m c hk e => h k a m c hk ((hb.cell (show (⟨cg, k, none⟩ : Addr).block < B from hc)).symm.trans e)
theorem Apart.set {w : World} {cg n i m1 c1 : Nat} {q : Option Nat} {A : Option Addr} (h : Apart w cg n q) {y : Value} (hy : w.cell? ⟨cg, i, none⟩ = some y) (hA : ∀ a, A = some a → q ≠ some a.block) : Apart (w.setCell ⟨cg, i, none⟩ (.slice A m1 c1)) cg n q := by
  intro k a m c hk e
  by_cases e2 : i = k
  · subst e2
    rw [World.cell?_setCell_same' w _ _ (by rw [hy]; rfl)] at e
    injection e with e
    injection e with e
    exact hA a e
  · rw [World.cell?_setCell_other w ⟨cg, i, none⟩ ⟨cg, k, none⟩ _ (fun e3 => by injection e3 with _ e3; exact e2 e3)] at e
    exact h k a m c hk e
theorem OwnR.keptO {w w' : World} {base n c g : Nat} {E : TypeId} {xss : List (List Value)} {v : Value} (h : OwnR w base E (.slice (some ⟨g, 0, none⟩) n c) xss) (hg : w.grownBy w' v.ownBlock) (hne : v.ownBlock ≠ some g) (hap : Apart w g n v.ownBlock) : OwnR w' base E (.slice (some ⟨g, 0, none⟩) n c) xss := by
  obtain ⟨vs, ho, hl, hr⟩ := h
  have hlen := ho.len
  refine ⟨vs, ho.kept hg (.inr (fun e => hne e.symm)), hl, fun k xs hk => ?_⟩
  obtain ⟨A, m, c', h1, h2, h3, h4⟩ := hr k xs hk
  refine ⟨A, m, c', h1, ?_, h3, fun a ha => ⟨(h4 a ha).1, Nat.lt_of_lt_of_le (h4 a ha).2 hg.size⟩⟩
  refine (h2.keepNe hg (Nat.le_refl _) (fun a ha => ?_)).more hg.size
  subst ha
  have hc := ho.cell h1
  rw [add_row] at hc
  exact hap k a m c' (by have := (List.getElem?_eq_some_iff.1 h1).1; omega) hc
theorem Apart.kept {w w' : World} {base n c g : Nat} {E : TypeId} {xss : List (List Value)} {v v' : Value} (h : OwnR w base E (.slice (some ⟨g, 0, none⟩) n c) xss) (hg : w.grownBy w' v.ownBlock) (hne : v.ownBlock ≠ some g) (hap : Apart w g n v.ownBlock) (hat : v'.ownBlock = v.ownBlock ∨ v'.ownBlock = some (w.heap.size + 1)) : Apart w' g n v'.ownBlock := by
  intro k a m c' hk e
  have hgl := h.ltO
  have e2 : w.cell? ⟨g, k, none⟩ = some (.slice (some a) m c') := (World.cell?_of_block (hg.block g hgl (fun e3 => hne e3.symm))).symm.trans e
  rcases hat with h7 | h7
  · rw [h7]; exact hap k a m c' hk e2
  · rw [h7]
    intro e3
    injection e3 with e3
    obtain ⟨vs, ho, hl, hr⟩ := h
    have hlen := ho.len
    have hkv : k < vs.length := by omega
    have hc := ho.cell (j := k) (List.getElem?_eq_getElem hkv)
    rw [add_row, e2] at hc
    injection hc with hc
    obtain ⟨A, m2, c2, h1, h2, h3, h4⟩ := hr k (xss[k]'(by omega)) (List.getElem?_eq_getElem (by omega))
    rw [List.getElem?_eq_getElem hkv, ← hc] at h1
    injection h1 with h1
    injection h1 with h1
    have := (h4 a h1.symm).2
    omega
theorem kmW_len (ns : List Nat) (j : Nat) : (kmW ns j).length = ns.getD j 0 := by unfold kmW; rw [digitsL_len]
set_option maxRecDepth 100000 in
set_option maxHeartbeats 3200000 in
theorem ref_Shortest (A : Option Addr) (n c : Nat) (ns : List Nat) (w : World) (h : Reads w w.heap.size A n (vn .i64 ns)) (hn : n ≤ 8) (hl : ∀ x ∈ ns, x ≤ 8) (hT : Hid (kTot ns ≤ 256)) :
    Calls Try.prog 42 #[.slice A n c] w (PostK w 23 (fun A' n' c' => .returned (.tuple #[.slice A' n' c', .bool true])) (kmC ns)) := by
  have H := Lib.hid h.nat_len
  have HL := Lib.hid hl
  have HG : Hid (∀ j, j < ns.length → ns.getD j 0 ≤ 8) := fun j hj => by
    rw [List.getD_eq_getElem?_getD, List.getElem?_eq_getElem hj]; exact hl _ (List.getElem_mem hj)
  clear hl
  go_enter Try.func42, Try.ntmps42
  go_wp2_with (at_make; refine mkN el_rowsK rfl _ _ rfl w.heap.size n rfl rfl rfl rfl (by omega) (by unfold maxLen; omega) (Nat.le_refl _) ?_; intro w1 ho1 hb1 hs1)
  have hR1 := OwnR.made ho1
  have hlen0 := kmP_none ns (prS ns 0 0) (fun j _ => by unfold prS; simp)
  rw [H.out] at hlen0
  rw [← hlen0] at hR1
  clear ho1 hlen0
  obtain ⟨cg, hcg⟩ : ∃ cg, cg = w.heap.size := ⟨_, rfl⟩
  have hR1 : OwnR w1 w.heap.size 23 (.slice (some ⟨cg, 0, none⟩) n n) ((kmP ns (prS ns 0 0)).map vb) := by rw [hcg]; exact hR1
  rw [← hcg]
  have HCG := Lib.hid hcg
  clear hcg
  go_loopw [5, 6] (fun gv sv wr => ∃ (s : Nat) (gl : List Nat), s ≤ 9 ∧ sv = .int .i64 s ∧ Own wr w.heap.size 3 gv (vn .i64 gl) ∧ gv.ownBlock ≠ some cg ∧ Apart wr cg n gv.ownBlock ∧ OwnR wr w.heap.size 23 (.slice (some ⟨cg, 0, none⟩) n n) ((kmP ns (prS ns s 0)).map vb) ∧ RowKit.Below w.heap.size w wr ∧ Hid (StS ns s 0 gl)) (fun _ sv _ => 9 - (intOf sv).toNat)
  case atStart => exact ⟨0, [], by omega, rfl, Own.nil _ _ _, by simp [Value.ownBlock], Apart.nil _ _ _, hR1, hb1, StS.start ns⟩
  case round =>
    clear hR1 hb1 hs1
    obtain ⟨s, gl, hs9, rfl, hg, hgne, hap, hrow, hbel, hst⟩ := hrel
    by_cases hs8 : s ≤ 8
    · have i1 : (s : Int) ≤ 8 := by omega
      go_wp2
      go_loopw [5, 24] (fun gv iv wr => ∃ (i : Nat) (gl : List Nat), i ≤ n ∧ iv = .int .i64 i ∧ Own wr w.heap.size 3 gv (vn .i64 gl) ∧ gv.ownBlock ≠ some cg ∧ Apart wr cg n gv.ownBlock ∧ OwnR wr w.heap.size 23 (.slice (some ⟨cg, 0, none⟩) n n) ((kmP ns (prS ns s i)).map vb) ∧ RowKit.Below w.heap.size w wr ∧ Hid (StS ns s i gl)) (fun _ iv _ => n - (intOf iv).toNat)
      case atStart => exact ⟨0, gl, by omega, rfl, hg, hgne, hap, hrow, hbel, hst⟩
      case round =>
        clear hg hgne hap hrow hbel hst
        obtain ⟨i, gl, hin, rfl, hg, hgne, hap, hrow, hbel, hst⟩ := hrel
        by_cases hlt : i < n
        · obtain ⟨ad, m, rfl, hb, hx, hc0⟩ := h.nat_at hlt
          have hc : wr.cell? (ad.add i) = some (.int .i64 (m : Int)) := (hbel.cell (by rw [block_of_add]; exact hb)).trans hc0
          have hmd : ns.getD i 0 = m := by rw [List.getD_eq_getElem?_getD, hx]; rfl
          have hil : i < ns.length := by rw [H.out]; exact hlt
          clear hx hc0
          by_cases hms : m = s
          · subst hms
            have HST2 : Hid (StS ns m (i + 1) (gl ++ [i])) := hst.out.take hil hmd hs8 hT.out
            obtain ⟨x0, hx0⟩ : ∃ x0, atS ns m i / 2 ^ (8 - m) = x0 := ⟨_, rfl⟩
            obtain ⟨M, hM⟩ : ∃ M, 2 ^ m = M := ⟨_, rfl⟩
            have hxM : x0 < M := by rw [← hx0, ← hM]; exact x0_lt hil hmd hs8 hT.out
            have hM2 : M ≤ 256 := by rw [← hM]; exact Nat.pow_le_pow_right (n := 2) (by omega) hs8
            have hMi : (2 : Int) ^ m = (M : Int) := by rw [← hM]; exact (Int.natCast_pow 2 m).symm
            have HW : Hid (kmW ns i = digitsL x0 m) := by unfold Hid kmW; rw [hmd, hx0]
            have HS := Lib.hid (kmP_set ns (prS ns m i) (prS ns m (i + 1)) i hil (fun j _ => prS_take hmd j))
            rw [HW.out] at HS
            have hinv : Hid (∀ x, x < M → (gl.all fun j => !begB (kmW ns j) (digitsL x m)) = decide (x0 ≤ x)) := by
              intro x hx
              have h1 := hst.out.inv m x (Nat.le_refl _) hs8 (by rw [hM]; exact hx)
              rw [List.all_map] at h1
              rw [show (gl.all fun j => !begB (kmW ns j) (digitsL x m)) = gl.all ((fun v => !begB v (digitsL x m)) ∘ kmW ns) from rfl, h1, Bool.eq_iff_iff]
              simp only [decide_eq_true_eq]
              have e := atS_div (ns := ns) (s := m) (i := i) hs8
              rw [hx0] at e
              rw [← e]
              exact Nat.mul_le_mul_right_iff (Nat.pow_pos (by omega))
            have HGL : Hid (∀ j ∈ gl, j < n ∧ (kmP ns (prS ns m i))[j]? = some (kmW ns j) ∧ (kmW ns j).length ≤ 8) := fun j hj => by
              have := hst.out.lt j hj
              exact ⟨by rw [← H.out]; exact this.1, kmP_at ns _ this.1 this.2, by rw [kmW_len]; exact HG.out j this.1⟩
            have hgl : gl.length ≤ 80 := by have := hst.out.len; omega
            have hnew : Hid (vn .i64 gl ++ [Value.int .i64 (i : Int)] = vn .i64 (gl ++ [i])) := by unfold Hid vn; rw [List.map_append]; rfl
            clear hx0 hM hst
            go_wp2
            go_loopw [9, 10] (fun f xv wi => ∃ (x : Nat) (q : Bool), xv = .int .i64 x ∧ f = .bool q ∧ x ≤ M ∧ Own wi w.heap.size 3 u5 (vn .i64 gl) ∧ Apart wi cg n u5.ownBlock ∧ OwnR wi w.heap.size 23 (.slice (some ⟨cg, 0, none⟩) n n) ((kmP ns (prS ns m (if q then i + 1 else i))).map vb) ∧ RowKit.Below w.heap.size w wi ∧ Hid (q = false → x ≤ x0)) (fun _ xv _ => M - (intOf xv).toNat)
            case atStart => exact ⟨0, false, rfl, rfl, by omega, hg, hap, hrow, hbel, fun _ => by omega⟩
            case round =>
              clear hg hap hrow hbel
              obtain ⟨x, q, rfl, rfl, hxM2, hg, hap, hrow, hbel, hq⟩ := hrel
              cases q with
              | true =>
                clear hq
                simp only [if_true] at hrow
                by_cases hxm : x < M
                · have d1 : decide ((x : Int) < (M : Int)) = true := by simp; omega
                  have i2 : (x : Int) < (M : Int) := by omega
                  have hB := hbel.size
                  go_wp2_with (at_builtin; refine app1 el_intK rfl _ _ rfl rfl hg _ _ rfl rfl (by rw [List.length_map]; unfold maxLen; omega) (by rw [List.length_map]; omega) hB ?_; intro v2 w2 ho2 hb2 hg2 hat2)
                  rw [hnew.out] at ho2
                  have hrow2 := hrow.keptO hg2 hgne hap
                  have hap2 := Apart.kept hrow hg2 hgne hap hat2
                  go_roundw
                  case rel =>
                    refine ⟨i + 1, gl ++ [i], by omega, by go_num, ho2, ?_, hap2, hrow2, hbel.trans hb2, HST2⟩
                    rcases hat2 with h7 | h7
                    · rw [h7]; exact hgne
                    · rw [h7]; intro e; injection e with e; have := hrow.ltO; omega
                  case measure => simp [intOf]; omega
                · have d1 : decide ((x : Int) < (M : Int)) = false := by simp; omega
                  have i2 : ¬ (x : Int) < (M : Int) := by omega
                  have hB := hbel.size
                  go_wp2_with (at_builtin; refine app1 el_intK rfl _ _ rfl rfl hg _ _ rfl rfl (by rw [List.length_map]; unfold maxLen; omega) (by rw [List.length_map]; omega) hB ?_; intro v2 w2 ho2 hb2 hg2 hat2)
                  rw [hnew.out] at ho2
                  have hrow2 := hrow.keptO hg2 hgne hap
                  have hap2 := Apart.kept hrow hg2 hgne hap hat2
                  go_roundw
                  case rel =>
                    refine ⟨i + 1, gl ++ [i], by omega, by go_num, ho2, ?_, hap2, hrow2, hbel.trans hb2, HST2⟩
                    rcases hat2 with h7 | h7
                    · rw [h7]; exact hgne
                    · rw [h7]; intro e; injection e with e; have := hrow.ltO; omega
                  case measure => simp [intOf]; omega
              | false =>
                simp only [Bool.false_eq_true, if_false] at hrow
                have hx0 := hq.out rfl
                have hxm : x < M := by omega
                have d1 : decide ((x : Int) < (M : Int)) = true := by simp; omega
                have i2 : (x : Int) < (M : Int) := by omega
                have cd := ref_Digits x m wr (by omega) (by omega)
                have hWl := Lib.hid (digitsL_len x m)
                have hAll := Lib.hid (hinv.out x hxm)
                obtain ⟨gA, gc, ev⟩ := hg.form
                obtain ⟨gn, hgn⟩ : ∃ gn, gl.length = gn := ⟨_, rfl⟩
                rw [List.length_map, hgn] at ev
                have HGN := Lib.hid hgn
                have hgn80 : gn ≤ 80 := by omega
                clear hgn hgl
                subst ev
                generalize hWd : digitsL x m = W at *
                have HWD := Lib.hid hWd
                clear hWd
                go_wp2_with (go_at_call 71; refine cd.mono ?_; clear cd; rintro e1 w1 ⟨A1, n1, c1, rfl, ho1, hb1⟩)
                have hrow1 := hrow.below hb1
                have hrows := hrow1.rows
                have hg1 := hg.below hb1 (Nat.le_refl _)
                have hbel1 := hbel.trans (hb1.mono hbel.size)
                have hn1 : n1 ≤ 8 := by have := ho1.reads.bool_len; have := hWl.out; omega
                have hcgw : cg < wr.heap.size := hrow.ltO
                have hcap1 := ho1.capLe'
                go_loopw [12, 48] (fun ok zv wi => ∃ z t : Nat, z ≤ gn ∧ zv = .int .i64 z ∧ wi = w1.drewN t ∧ ok = .bool ((gl.take z).all fun j => !begB (kmW ns j) W)) (fun _ zv _ => gn - (intOf zv).toNat)
                case atStart => exact ⟨0, 0, by omega, rfl, rfl, by simp⟩
                case round =>
                  obtain ⟨z, t, hz, rfl, rfl, rfl⟩ := hrel
                  by_cases hzk : z < gn
                  · obtain ⟨adg, j, rfl, _, hxj, hcj⟩ := hg1.reads.nat_at hzk
                    obtain ⟨hjn, hkj, hlj⟩ := HGL.out j (mem_at hxj)
                    obtain ⟨ad3, l3, A3, n3, c3, e3, hx3, hc3, hr3⟩ := hrows.brow hjn
                    injection e3 with e3
                    subst e3
                    obtain rfl : l3 = kmW ns j := by rw [hkj] at hx3; injection hx3 with hx3; exact hx3.symm
                    have hn3 : n3 ≤ maxLen := by have := hr3.bool_len; unfold maxLen; omega
                    have HA : Hid (((gl.take (z + 1)).all fun j => !begB (kmW ns j) W) = (((gl.take z).all fun j => !begB (kmW ns j) W) && !begB (kmW ns j) W)) := by
                      unfold Hid; rw [take_next hxj, List.all_append]; simp
                    have cr := ref_Begins A3 A1 n3 n1 c3 c1 (kmW ns j) W (begB (kmW ns j) W) (w1.drewN t) (hr3.drewN t) (ho1.reads.drewN t) hn3 hcap1 rfl
                    have z1 : (0 : Int) ≤ (j : Int) := by omega
                    have z2 : (j : Int) < (n : Int) := by omega
                    rw [add_row] at hc3
                    clear hxj hx3 hkj hlj
                    generalize ((gl.take z).all fun j => !begB (kmW ns j) W) = Bz at *
                    generalize begB (kmW ns j) W = r at *
                    cases Bz
                    · clear cr
                      go_wp2
                      go_roundw
                      case rel => exact ⟨z + 1, t, by omega, by go_num, rfl, by rw [HA.out]; rfl⟩
                      case measure => simp [intOf]; omega
                    · go_wp2_with (go_at_call 72; refine cr.mono ?_; clear cr; rintro e2 w2 ⟨rfl, t2, rfl⟩)
                      go_roundw
                      case rel => exact ⟨z + 1, t + t2, by omega, by go_num, by first | rfl | rw [World.drewN_drewN], by rw [HA.out]; rfl⟩
                      case measure => simp [intOf]; omega
                  · obtain rfl : z = gn := by omega
                    have hBv : ((gl.take z).all fun j => !begB (kmW ns j) W) = decide (x0 ≤ x) := by rw [List.take_of_length_le (Nat.le_of_eq HGN.out)]; exact hAll.out
                    rw [hBv]
                    have hbel2 := below_drewN hbel1 t
                    have hg2 := hg1.drewN t
                    have hrow2 := hrow1.below (below_drewN (RowKit.Below.refl _ w1) t)
                    have ho1d := ho1.drewN t
                    have hap1 : Apart (w1.drewN t) cg n (Value.ownBlock (.slice gA z gc)) := (hap.below hb1 hcgw).below (below_drewN (RowKit.Below.refl _ w1) t) (Nat.lt_of_lt_of_le hcgw hb1.size)
                    by_cases hok : x0 ≤ x
                    · obtain rfl : x = x0 := by omega
                      rw [decide_eq_true hok]
                      have hmx : n1 ≤ maxLen := by unfold maxLen; omega
                      have hset := hrow2.set i (c' := c1) ho1d.reads hmx (fun a ha => ⟨by have := ho1d.beyond a ha; show a.block ≠ cg; omega, by subst ha; exact (Own.lt ho1d a.block rfl).2⟩)
                      rw [add_row] at hset
                      rw [HWD.out] at HS
                      rw [HS.out] at hset
                      have hfr : (w1.drewN t).frozen? ⟨cg, i, none⟩ = false := by obtain ⟨vs, hv, _⟩ := hrow2; have := hv.frozenAt i; rwa [add_row] at this
                      have hcl : ∃ y, (w1.drewN t).cell? ⟨cg, i, none⟩ = some y := by
                        obtain ⟨vs, hv, _⟩ := hrow2
                        have h2 := hv.len
                        have := hv.cell (j := i) (List.getElem?_eq_getElem (by omega))
                        rw [add_row] at this; exact ⟨_, this⟩
                      obtain ⟨y0, hcl⟩ := hcl
                      have haps := hap1.set (m1 := n1) (c1 := c1) hcl (A := A1) (fun a ha e => by have h1 := ho1d.beyond a ha; have h2 := (Own.lt hg _ e).2; omega)
                      have hgs := hg2.setOther ⟨cg, i, none⟩ (.slice A1 n1 c1) hgne
                      have hbs := hbel2.setCell (show w.heap.size ≤ (⟨cg, i, none⟩ : Addr).block by show w.heap.size ≤ cg; rw [HCG.out]; exact Nat.le_refl _) (.slice A1 n1 c1)
                      have hI : (i : Int) < (n : Int) := by omega
                      have hI0 : (0 : Int) ≤ (i : Int) := by omega
                      clear hBv hok hg1 hrow1 hrows hrow2
                      go_wp2
                      go_roundw
                      case rel => exact ⟨x + 1, true, by go_num, rfl, by omega, hgs, haps, hset, hbs, fun h => by cases h⟩
                      case measure => simp [intOf]; omega
                    · rw [decide_eq_false hok]
                      clear hBv
                      go_wp2
                      go_roundw
                      case rel => exact ⟨x + 1, false, by go_num, rfl, by omega, hg2, hap1, hrow2, hbel2, fun _ => by omega⟩
                      case measure => simp [intOf]; omega
          · have HST2 : Hid (StS ns s (i + 1) gl) := hst.out.skip (by rw [hmd]; exact hms)
            have hmi : ¬ (m : Int) = (s : Int) := by omega
            have hmb : ((m : Int) != (s : Int)) = true := by simp; omega
            rw [kmP_congr ns (fun j _ => prS_skip (by rw [hmd]; exact hms) j)] at hrow
            clear hst
            go_wp2
            go_roundw
            case rel => exact ⟨i + 1, gl, by omega, by go_num, hg, hgne, hap, hrow, hbel, HST2⟩
            case measure => simp [intOf]; omega
        · obtain rfl : i = n := by omega
          have HST2 : Hid (StS ns (s + 1) 0 gl) := by have h1 := hst.out; rw [← H.out] at h1; exact h1.next (by rw [H.out]; exact hn)
          have hcg2 : kmP ns (prS ns s i) = kmP ns (prS ns (s + 1) 0) := kmP_congr ns (fun j hj => by have := prS_next (s := s) hj; rw [H.out] at this; exact this)
          rw [hcg2] at hrow
          clear hst hcg2
          go_wp2
          go_roundw
          case rel => exact ⟨s + 1, gl, by omega, by go_num, hg, hgne, hap, hrow, hbel, HST2⟩
          case measure => simp [intOf]; omega
    · obtain rfl : s = 9 := by omega
      have hfull := kmP_all ns (prS ns 9 0) (fun j hj => by have := HG.out j hj; unfold prS; simp only [decide_eq_true_eq]; omega)
      rw [hfull] at hrow
      clear hfull
      go_wp2
      go_ret2
      exact ⟨hbel, _, _, _, rfl, hrow, hn⟩
end Go.Proofs.Ytmepiiheidmbgaa

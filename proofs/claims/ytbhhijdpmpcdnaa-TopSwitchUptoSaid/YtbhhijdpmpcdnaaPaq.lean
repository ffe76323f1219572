/-
  pair.write.
-/
import Derived.Test.YtbhhijdpmpcdnaaPap
import Derived.Deep.OwnRows
set_option linter.unusedVariables false
namespace Go.Proofs.Ytbhhijdpmpcdnaa
open Go.RowKit

/-- what a part of a step does: it answers the last of what t' tells, and the pair is t' -/
def StepP (w : World) (B pb : Nat) (WV : Value) (d mode : Nat) (T0 T1 : Tb) (t t' : PrT ArP) (mk : Nat → Nat → Value) (e' : Ending) (w' : World) : Prop :=
  ∃ e v WV', e' = .returned (mk e v) ∧ t'.outs = t.outs ++ [(e, v)] ∧ PrR w' B pb WV' d mode T0 T1 t' ∧ Ch w w' (PrF pb WV d T0 T1)
def stV (x : StS) : Value := .agg #[.int .i64 x.kind, .int .i64 x.site, .int .i64 x.block, .int .u8 (x.val : Int)]
theorem el_stepP : ElemK Try.prog 22 35 4 32 := ElemK.mk' (z := .agg #[.int .i64 0, .int .i64 0, .int .i64 0, .int .u8 0]) Try.underlying22 (by kernel_rfl) rfl (by omega)
/-- only what is told changed in the words -/
theorem PrR.outs {w : World} {B pb d mode : Nat} {WV : Value} {T0 T1 : Tb} {t : PrT ArP} (h : PrR w B pb WV d mode T0 T1 t) (o : List (Nat × Nat)) : PrR w B pb WV d mode T0 T1 { t with outs := o } := ⟨h.line, h.wri, h.tab0, h.tab1, h.ap, h.low, h.lt0, h.lt1⟩
/-- a write was added and its row laid into the box -/
theorem PrR.push {w w' : World} {B pb d mode : Nat} {WV WV' : Value} {T0 T1 : Tb} {t : PrT ArP} {x : StS} (h : PrR w B pb WV d mode T0 T1 t) (ho : OwnQ w' B 35 4 WV' ((t.ws ++ [x]).map stC)) (hg : w.grownBy w' WV.ownBlock) : PrR (w'.setCell ⟨pb, 1, none⟩ WV') B pb WV' d mode T0 T1 { t with ws := t.ws ++ [x] } := by
  have hc := Ch.of_grown hg
  have hb : BoxV w' pb 48 (Value.int .i64 (mode : Int) :: WV :: Value.int .i64 (t.s : Int) :: Value.int .i64 (t.g : Int) :: Value.int .i64 (t.p : Int) :: Value.int .i64 (t.k : Int) :: pairX T0 T1 t.main t.told) := BoxV.ch h.line hc (fun e => h.wri.notBox h.line (by decide) e)
  have hF : ∀ b, WV.ownBlock = some b → ∀ cur E m, w.heap[b]? = some (.cells cur E m) → E ≠ 66 ∧ E ≠ 5 ∧ E ≠ 33 := fun b hb cur E m e => by
    obtain ⟨c, e'⟩ := h.wri.ty hb
    rw [e'] at e
    injection e with e
    injection e with _ e
    subst e
    exact ⟨by decide, by decide, by decide⟩
  have t0 := h.tab0.chTy hc hF
  have t1 := h.tab1.chTy hc hF
  have hs : Ch w' (w'.setCell ⟨pb, 1, none⟩ WV') (fun b => b = pb) := (Ch.refl _ _).setCell pb 1 WV' (fun _ => rfl)
  have hG : ∀ b, b = pb → ∀ cur E m, w'.heap[b]? = some (.cells cur E m) → E ≠ 66 ∧ E ≠ 5 ∧ E ≠ 33 := fun b e cur E m e' => by
    subst e
    rw [show w'.heap[b]? = _ from hb] at e'
    injection e' with e'
    injection e' with _ e
    subst e
    exact ⟨by decide, by decide, by decide⟩
  exact ⟨hb.set 1 WV', ho.setOther _ _ (ho.notBox hb (by decide)), t0.chTy hs hG, t1.chTy hs hG, h.ap, h.low, h.lt0, h.lt1⟩
section
variable (B pb d mode : Nat) (WV : Value) (T0 T1 : Tb) (t : PrT ArP) (x : StS) (w : World)
set_option maxRecDepth 100000 in
set_option maxHeartbeats 4000000 in
theorem pair_write (h : PrR w B pb WV d mode T0 T1 t) (n : Nat) (hok : PrOk t n) (hn : n ≤ 100) (h3 : 3 ≤ d) (h6 : d ≤ 6) (hx : x.val < 256) (hBw : B ≤ w.heap.size) :
    Calls Try.prog 20 #[.pointer (some ⟨pb, 0, none⟩), stV x] w (StepP w B pb WV d mode T0 T1 t (wrG (mvP d) t x) (fun e _ => .int .i64 (e : Int))) := by
  unfold stV
  have hbx : BoxV (w.alloc (.cells #[.int .i64 x.kind, .int .i64 x.site, .int .i64 x.block, .int .u8 (x.val : Int)] 35)) w.heap.size 35 [.int .i64 x.kind, .int .i64 x.site, .int .i64 x.block, .int .u8 (x.val : Int)] := BoxV.new w _ _
  have x2 := hbx.cell (j := 2) rfl
  have hA := h.alloc (.cells #[.int .i64 x.kind, .int .i64 x.site, .int .i64 x.block, .int .u8 (x.val : Int)] 35)
  have hcA : Ch w (w.alloc (.cells #[.int .i64 x.kind, .int .i64 x.site, .int .i64 x.block, .int .u8 (x.val : Int)] 35)) (PrF pb WV d T0 T1) := (Ch.refl _ _).alloc _
  by_cases hb : x.block < 0 ∨ 24 ≤ x.block
  · have hG : wrG (mvP d) t x = { t with outs := t.outs ++ [(2, 0)] } := by unfold wrG; rw [if_pos hb]
    rw [hG]
    have HA := Lib.hid (hA.outs (t.outs ++ [(2, 0)]))
    have HC := Lib.hid hcA
    clear h hbx hA hG hcA hok
    by_cases hb0 : x.block < 0
    · clear hb
      go_enter Try.func20, Try.ntmps20
      go_wp2
      go_ret
      exact ⟨2, 0, WV, rfl, rfl, HA.out, HC.out⟩
    · have hb1 : 24 ≤ x.block := by omega
      clear hb
      go_enter Try.func20, Try.ntmps20
      go_wp2
      go_ret
      exact ⟨2, 0, WV, rfl, rfl, HA.out, HC.out⟩
  · obtain ⟨b, hbb⟩ : ∃ b : Nat, x.block = (b : Int) := ⟨x.block.toNat, by omega⟩
    rw [hbb] at x2 hbx hA hcA ⊢
    have hb24 : b < 24 := by omega
    have i0 : ¬ (b : Int) < 0 := by omega
    have i1 : ¬ 24 ≤ (b : Int) := by omega
    have x0 := hbx.cell (j := 0) rfl; have x1 := hbx.cell (j := 1) rfl; have x3 := hbx.cell (j := 3) rfl
    have p8 := hA.line.cX (j := 2) rfl
    have mn := hok.mn
    have hws := hok.le4
    by_cases hm : t.main = 0
    · have hG : wrG (mvP d) t x = { t with outs := t.outs ++ [(0, 0)], a0 := (writeD t.a0.1 t.a0.2 d b x.val, t.a0.2), ws := t.ws ++ [x] } := by
        unfold wrG; rw [if_neg hb, if_pos hm, hbb, mvP_write _ _ _ hb24]
      rw [hG]
      rw [hm] at p8
      have p6 := hA.line.cX (j := 0) rfl
      have hl2 : ∀ q y, writeD t.a0.1 t.a0.2 d b x.val q y < 256 := by
        have := mvP_lt (d := d) h.lt0 1 (b : Int) hx
        rw [mvP_write _ _ _ hb24] at this; exact this
      have HL2 := Lib.hid hl2
      have HBX := Lib.hid hbx
      have HA := Lib.hid hA
      have HCA := Lib.hid hcA
      have HM := Lib.hid hm
      have HBB := Lib.hid hbb
      obtain ⟨A, c, hWV⟩ := h.wri.form
      rw [List.length_map] at hWV
      have HWV := Lib.hid hWV
      have cw := stripe_Write T0.b T0.h d b x.val t.a0.2 T0.gr t.a0.1 (w.alloc (.cells #[.int .i64 x.kind, .int .i64 x.site, .int .i64 (b : Int), .int .u8 (x.val : Int)] 35)).drew (TabT.below HA.out.tab0 (Below.drew (Below.refl _ _))) h.lt0 h3 h6 hb24 hx
      clear h hA hcA hG hm hbb hb hWV hl2 hbx hok mn
      go_enter Try.func20, Try.ntmps20
      go_wp2
      go_cut [13] (fun sv wc => sv = .pointer (some ⟨pb, 0, none⟩) ∧ PrR wc B pb WV d mode T0 T1 { t with a0 := (writeD t.a0.1 t.a0.2 d b x.val, t.a0.2) } ∧ Ch w wc (PrF pb WV d T0 T1) ∧ BoxV wc w.heap.size 35 [.int .i64 x.kind, .int .i64 x.site, .int .i64 (b : Int), .int .u8 (x.val : Int)] ∧ (w.alloc (.cells #[.int .i64 x.kind, .int .i64 x.site, .int .i64 (b : Int), .int .u8 (x.val : Int)] 35)).heap.size ≤ wc.heap.size)
      case first =>
        go_region_law (go_simp; go_at_call 28; refine cw.mono ?_; rintro e w2 ⟨rfl, ht2, ho2⟩)
        all_goals (try go_wp2_with fail)
        all_goals go_meet
        all_goals
          have hp2 := (HA.out.below (Below.drew (Below.refl _ _))).ch0 (a := (writeD t.a0.1 t.a0.2 d b x.val, t.a0.2)) ht2 ((ho2.toB (hb := T0.h)).toCh (T := T0)) HL2.out
          have hc2 := (HCA.out.drew).trans ((ho2.toB (hb := T0.h)).toCh (T := T0)) (fun _ _ q => .inr (.inr (.inl q)))
          have hbx2 : BoxV w2 w.heap.size 35 [Value.int .i64 x.kind, .int .i64 x.site, .int .i64 (b : Int), .int .u8 (x.val : Int)] := by
            refine BoxV.ch (w := (w.alloc (.cells #[.int .i64 x.kind, .int .i64 x.site, .int .i64 (b : Int), .int .u8 (x.val : Int)] 35)).drew) HBX.out ((ho2.toB (hb := T0.h)).toCh (T := T0)) (fun hf => ?_)
            rcases hf with e | ⟨i, hi, e⟩
            · exact ty_ne HA.out.tab0.box HBX.out (by decide) e.symm
            · obtain ⟨cc, hcc⟩ := HA.out.tab0.grTy hi
              exact ty_ne hcc HBX.out (by decide) e
          exact ⟨rfl, hp2, hc2, hbx2, ho2.size⟩
      case rest =>
        obtain ⟨rfl, hp2, hc2, hbx2, hsz⟩ := hcut
        clear x0 x1 x2 x3 p6 p8 cw
        obtain rfl := HWV.out
        have y0 := hbx2.cell (j := 0) rfl; have y1 := hbx2.cell (j := 1) rfl; have y2 := hbx2.cell (j := 2) rfl; have y3 := hbx2.cell (j := 3) rfl
        have l1 := hp2.line.c1
        have p8 := hp2.line.cX (j := 2) rfl
        rw [show (Value.int .i64 (t.main : Int)) = .int .i64 0 by rw [HM.out]; rfl] at p8
        have hbA := hbx2.alloc (.cells #[.int .i64 x.kind, .int .i64 x.site, .int .i64 (b : Int), .int .u8 (x.val : Int)] 35)
        have z0 := hbA.cell (j := 0) rfl; have z1 := hbA.cell (j := 1) rfl; have z2 := hbA.cell (j := 2) rfl; have z3 := hbA.cell (j := 3) rfl
        have hlA := hp2.alloc (.cells #[.int .i64 x.kind, .int .i64 x.site, .int .i64 (b : Int), .int .u8 (x.val : Int)] 35)
        have l2 := hlA.line.c1
        have HPD : Hid (PrR (wc.alloc (.cells #[.int .i64 x.kind, .int .i64 x.site, .int .i64 (b : Int), .int .u8 (x.val : Int)] 35)).drew B pb _ d mode T0 T1 _) := hlA.below (Below.drew (Below.refl _ _))
        have HNEW : Hid (∀ j u, [Value.int .i64 x.kind, .int .i64 x.site, .int .i64 (b : Int), .int .u8 (x.val : Int)][j]? = some u → (wc.alloc (.cells #[.int .i64 x.kind, .int .i64 x.site, .int .i64 (b : Int), .int .u8 (x.val : Int)] 35)).drew.cell? ((⟨wc.heap.size, 0, none⟩ : Addr).add j) = some u) := fun j u hu => by
          rw [add_row]; exact (BoxV.new wc [Value.int .i64 x.kind, .int .i64 x.site, .int .i64 (b : Int), .int .u8 (x.val : Int)] 35).cell hu
        have HYS : Hid (t.ws.map stC ++ [[Value.int .i64 x.kind, .int .i64 x.site, .int .i64 (b : Int), .int .u8 (x.val : Int)]] = (t.ws ++ [x]).map stC) := by unfold Hid; rw [List.map_append]; simp only [List.map_cons, List.map_nil]; unfold stC; rw [HBB.out]
        have HP2 := Lib.hid hp2
        have HC2 := Lib.hid hc2
        have HSZ := Lib.hid hsz
        clear hbA hlA hp2 hc2 hbx2 hsz HA HCA HBX
        go_wp2
        go_region_law (refine step_appQs el_stepP rfl (.tmp 37) (.tmp 39) rfl rfl HPD.out.wri ⟨wc.heap.size, 0, none⟩ 1 [Value.int .i64 x.kind, .int .i64 x.site, .int .i64 (b : Int), .int .u8 (x.val : Int)] ((t.ws ++ [x]).map stC) (t.ws.length + 1) HYS (by simp [Hid]) rfl rfl HNEW.out (by intro u hu; simp only [List.mem_cons, List.not_mem_nil, or_false] at hu; rcases hu with rfl | rfl | rfl | rfl <;> rfl) (by unfold maxLen; omega) (by omega) (by have := HSZ.out; simp at this ⊢; omega) ?_; intro A3 k3 w3 ho3 hg3 hat3; have hb3 : BoxV w3 pb 48 _ := BoxV.ch HPD.out.line (Ch.of_grown hg3) (fun e => HPD.out.wri.notBox HPD.out.line (by decide) e); have e3 := hb3.cell (j := 1) rfl; have f3 := hb3.free 1)
        all_goals
          have HP5 := Lib.hid ((HPD.out.push (x := x) ho3 hg3).outs (t.outs ++ [(0, 0)]))
          have HC5 : Hid (Ch w (w3.setCell ⟨pb, 1, none⟩ (.slice A3 (t.ws.length + 1) k3)) (PrF pb (.slice A t.ws.length c) d T0 T1)) := (((HC2.out.trans (((Ch.refl wc (PrF pb (.slice A t.ws.length c) d T0 T1)).alloc (.cells #[.int .i64 x.kind, .int .i64 x.site, .int .i64 (b : Int), .int .u8 (x.val : Int)] 35)).drew) (fun _ _ q => q)).trans (Ch.of_grown hg3) (fun b _ e => .inr (.inl e)))).setCell pb 1 _ (fun _ => .inl rfl)
          clear ho3 hg3 hat3 hb3 e3 f3 y0 y1 y2 y3 z0 z1 z2 z3 l1 l2 p8
          go_wp2
          go_ret
          exact ⟨0, 0, _, rfl, rfl, HP5.out, HC5.out⟩
    · have hm1 : t.main = 1 := mn.resolve_left hm
      have hG : wrG (mvP d) t x = { t with outs := t.outs ++ [(0, 0)], a1 := (writeD t.a1.1 t.a1.2 d b x.val, t.a1.2) } := by
        unfold wrG; rw [if_neg hb, if_neg hm, hbb, mvP_write _ _ _ hb24]
      rw [hG]
      rw [hm1] at p8
      have p7 := hA.line.cX (j := 1) rfl
      have hl2 : ∀ q y, writeD t.a1.1 t.a1.2 d b x.val q y < 256 := by
        have := mvP_lt (d := d) h.lt1 1 (b : Int) hx
        rw [mvP_write _ _ _ hb24] at this; exact this
      have HL2 := Lib.hid hl2
      have HBX := Lib.hid hbx
      have HA := Lib.hid hA
      have HCA := Lib.hid hcA
      have HM := Lib.hid hm1
      have cw := stripe_Write T1.b T1.h d b x.val t.a1.2 T1.gr t.a1.1 (w.alloc (.cells #[.int .i64 x.kind, .int .i64 x.site, .int .i64 (b : Int), .int .u8 (x.val : Int)] 35)).drew (TabT.below HA.out.tab1 (Below.drew (Below.refl _ _))) h.lt1 h3 h6 hb24 hx
      clear h hA hcA hG hm hm1 hbb hb hl2 hbx hok mn
      go_enter Try.func20, Try.ntmps20
      go_wp2
      go_cut [13] (fun sv wc => sv = .pointer (some ⟨pb, 0, none⟩) ∧ PrR wc B pb WV d mode T0 T1 { t with a1 := (writeD t.a1.1 t.a1.2 d b x.val, t.a1.2) } ∧ Ch w wc (PrF pb WV d T0 T1) ∧ BoxV wc w.heap.size 35 [.int .i64 x.kind, .int .i64 x.site, .int .i64 (b : Int), .int .u8 (x.val : Int)] ∧ (w.alloc (.cells #[.int .i64 x.kind, .int .i64 x.site, .int .i64 (b : Int), .int .u8 (x.val : Int)] 35)).heap.size ≤ wc.heap.size)
      case first =>
        go_region_law (go_simp; go_at_call 28; refine cw.mono ?_; rintro e w2 ⟨rfl, ht2, ho2⟩)
        all_goals (try go_wp2_with fail)
        all_goals go_meet
        all_goals
          have hp2 := (HA.out.below (Below.drew (Below.refl _ _))).ch1 (a := (writeD t.a1.1 t.a1.2 d b x.val, t.a1.2)) ht2 ((ho2.toB (hb := T1.h)).toCh (T := T1)) HL2.out
          have hc2 := (HCA.out.drew).trans ((ho2.toB (hb := T1.h)).toCh (T := T1)) (fun _ _ q => .inr (.inr (.inr q)))
          have hbx2 : BoxV w2 w.heap.size 35 [Value.int .i64 x.kind, .int .i64 x.site, .int .i64 (b : Int), .int .u8 (x.val : Int)] := by
            refine BoxV.ch (w := (w.alloc (.cells #[.int .i64 x.kind, .int .i64 x.site, .int .i64 (b : Int), .int .u8 (x.val : Int)] 35)).drew) HBX.out ((ho2.toB (hb := T1.h)).toCh (T := T1)) (fun hf => ?_)
            rcases hf with e | ⟨i, hi, e⟩
            · exact ty_ne HA.out.tab1.box HBX.out (by decide) e.symm
            · obtain ⟨cc, hcc⟩ := HA.out.tab1.grTy hi
              exact ty_ne hcc HBX.out (by decide) e
          exact ⟨rfl, hp2, hc2, hbx2, ho2.size⟩
      case rest =>
        obtain ⟨rfl, hp2, hc2, hbx2, hsz⟩ := hcut
        clear x0 x1 x2 x3 p7 p8 cw
        have p8 := hp2.line.cX (j := 2) rfl
        rw [show (Value.int .i64 (t.main : Int)) = .int .i64 1 by rw [HM.out]; rfl] at p8
        have HP5 := Lib.hid (hp2.outs (t.outs ++ [(0, 0)]))
        have HC2 := Lib.hid hc2
        clear hp2 hc2 hbx2 hsz HA HCA HBX
        go_wp2
        go_ret
        exact ⟨0, 0, _, rfl, rfl, HP5.out, HC2.out⟩
end
end Go.Proofs.Ytbhhijdpmpcdnaa

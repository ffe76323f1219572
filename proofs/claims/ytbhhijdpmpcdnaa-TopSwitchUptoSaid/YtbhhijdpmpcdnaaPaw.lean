/-
  pair.step.
-/
import Derived.Test.YtbhhijdpmpcdnaaPav
set_option linter.unusedVariables false
namespace Go.Proofs.Ytbhhijdpmpcdnaa
open Go.RowKit

theorem ship_DoPair {T : TypeId} {X : List Value} (b N c mode s g p k : Nat) (A : Option Addr) (w : World) (h : LineB w b (.slice A N c) mode s g p k T X) (hN : N ≤ 1000) (hs : s ≤ 1000) (hg : g ≤ 1000) (hp : p ≤ 1000) (z : Int) :
    Calls Try.prog 23 #[.pointer (some ⟨b, 0, none⟩), .int .i64 z] w (DoP T X w b (.slice A N c) mode (doS N mode s g p k z)) := by
  by_cases h2 : z = 2
  · subst h2; exact ship_Do2 b N c mode s g p k A w h hN hs hg hp
  by_cases h3 : z = 3
  · subst h3; exact ship_Do3 b N c mode s g p k A w h hN hs hg hp
  by_cases h4 : z = 4
  · subst h4; exact ship_Do4 b N c mode s g p k A w h hN hs hg hp
  by_cases h5 : z = 5
  · subst h5; exact ship_Do5 b N c mode s g p k A w h
  by_cases h6 : z = 6
  · subst h6; exact ship_Do6 b N c mode s g p k A w h
  exact ship_DoX b N c mode s g p k z A w h ⟨h2, h3, h4, h5, h6⟩
theorem doS_p (N mode s g p k : Nat) (kind : Int) : p ≤ (doS N mode s g p k kind).p := by
  unfold doS
  repeat' split
  all_goals (simp only; omega)
theorem StepP.from {w w1 : World} {B pb d mode : Nat} {WV : Value} {T0 T1 : Tb} {t t' : PrT ArP} {mk : Nat → Nat → Value} {e : Ending} {w' : World} (hc : Ch w w1 (PrF pb WV d T0 T1)) (h : StepP w1 B pb WV d mode T0 T1 t t' mk e w') : StepP w B pb WV d mode T0 T1 t t' mk e w' := by
  obtain ⟨a, b, WV', h1, h2, h3, h4⟩ := h
  exact ⟨a, b, WV', h1, h2, h3, hc.trans h4 (fun _ _ q => q)⟩
theorem wrG_out (d : Nat) (t : PrT ArP) (x : StS) : ∃ e, (wrG (mvP d) t x).outs = t.outs ++ [(e, 0)] := by
  unfold wrG; repeat' split
  all_goals exact ⟨_, rfl⟩
theorem chG_out (d mode : Nat) (t : PrT ArP) : ∃ e, (chG (mvP d) mode t).outs = t.outs ++ [(e, 0)] := by
  unfold chG; split
  all_goals exact ⟨_, rfl⟩
theorem out_zero {o o' : List (Nat × Nat)} {e v : Nat} (h : o' = o ++ [(e, v)]) (k : ∃ e', o' = o ++ [(e', 0)]) : v = 0 := by
  obtain ⟨e', k⟩ := k
  have h2 := List.append_cancel_left (h.symm.trans k)
  injection h2 with h2
  injection h2
section
variable (B pb d mode : Nat) (WV : Value) (T0 T1 : Tb) (t : PrT ArP) (x : StS) (w : World)
abbrev mkStep (e v : Nat) : Value := .tuple #[.int .u8 (v : Int), .int .i64 (e : Int)]
set_option maxRecDepth 100000 in
set_option maxHeartbeats 4000000 in
theorem pair_step (h : PrR w B pb WV d mode T0 T1 t) (n : Nat) (hok : PrOk t n) (hn : n ≤ 100) (h3 : 3 ≤ d) (h6 : d ≤ 6) (hx : x.val < 256) (hBw : B ≤ w.heap.size) :
    Calls Try.prog 15 #[.pointer (some ⟨pb, 0, none⟩), stV x] w (StepP w B pb WV d mode T0 T1 t (stepG (mvP d) mode d t x) mkStep) := by
  have hbx : BoxV (w.alloc (.cells #[.int .i64 x.kind, .int .i64 x.site, .int .i64 x.block, .int .u8 (x.val : Int)] 35)) w.heap.size 35 [.int .i64 x.kind, .int .i64 x.site, .int .i64 x.block, .int .u8 (x.val : Int)] := BoxV.new w _ _
  have x0 := hbx.cell (j := 0) rfl; have x1 := hbx.cell (j := 1) rfl; have x2 := hbx.cell (j := 2) rfl; have x3 := hbx.cell (j := 3) rfl
  have hA := h.alloc (.cells #[.int .i64 x.kind, .int .i64 x.site, .int .i64 x.block, .int .u8 (x.val : Int)] 35)
  have hcA : Ch w (w.alloc (.cells #[.int .i64 x.kind, .int .i64 x.site, .int .i64 x.block, .int .u8 (x.val : Int)] 35)) (PrF pb WV d T0 T1) := (Ch.refl _ _).alloc _
  have HA := Lib.hid hA
  have HCA := Lib.hid hcA
  have p8 := hA.line.cX (j := 2) rfl
  have hAs : B ≤ (w.alloc (.cells #[.int .i64 x.kind, .int .i64 x.site, .int .i64 x.block, .int .u8 (x.val : Int)] 35)).heap.size := by simp; omega
  by_cases k0 : x.kind < 1 ∨ 10 < x.kind
  · have hG : stepG (mvP d) mode d t x = { t with outs := t.outs ++ [(6, 0)] } := by unfold stepG; rw [if_pos k0]
    rw [hG]
    unfold stV
    clear h hA hcA hG hok hbx
    by_cases k1 : x.kind < 1
    · clear k0
      go_enter Try.func15, Try.ntmps15
      go_wp2
      go_ret2
      exact ⟨6, 0, WV, rfl, rfl, HA.out.outs _, HCA.out⟩
    · have k2 : 10 < x.kind := by omega
      clear k0
      go_enter Try.func15, Try.ntmps15
      go_wp2
      go_ret2
      exact ⟨6, 0, WV, rfl, rfl, HA.out.outs _, HCA.out⟩
  have j0 : ¬ x.kind < 1 := by omega
  have j1 : ¬ 10 < x.kind := by omega
  by_cases k1 : x.kind = 1
  · have hG : stepG (mvP d) mode d t x = wrG (mvP d) t x := by unfold stepG; rw [if_neg k0, if_pos k1]
    rw [hG]
    have cw := pair_write B pb d mode WV T0 T1 t x _ hA n hok hn h3 h6 hx hAs
    have t1 : (x.kind == 1) = true := by simpa using k1
    unfold stV at cw ⊢
    clear h hA hcA hG hok hbx k0 k1
    go_enter Try.func15, Try.ntmps15
    go_wp2_with (go_at_call 20; refine cw.mono ?_; clear cw; rintro e w2 ⟨ev, vv, WV', rfl, ho, hp, hc⟩)
    go_ret2
    obtain rfl := out_zero ho (wrG_out d t x)
    exact ⟨ev, 0, WV', rfl, ho, hp, HCA.out.trans hc (fun _ _ q => q)⟩
  have t1 : (x.kind == 1) = false := by simpa using k1
  by_cases k10 : x.kind = 10
  · have hG : stepG (mvP d) mode d t x = chG (mvP d) mode t := by unfold stepG; rw [if_neg k0, if_neg k1, if_pos k10]
    rw [hG]
    have cw := pair_change B pb d mode WV T0 T1 t _ hA n hok hn h3 h6
    have t2 : (x.kind == 10) = true := by simpa using k10
    unfold stV
    clear h hA hcA hG hok hbx k0 k1 k10
    go_enter Try.func15, Try.ntmps15
    go_wp2_with (go_at_call 21; refine cw.mono ?_; clear cw; rintro e w2 ⟨ev, vv, WV', rfl, ho, hp, hc⟩)
    go_ret2
    obtain rfl := out_zero ho (chG_out d mode t)
    exact ⟨ev, 0, WV', rfl, ho, hp, HCA.out.trans hc (fun _ _ q => q)⟩
  have t2 : (x.kind == 10) = false := by simpa using k10
  by_cases k7 : 7 ≤ x.kind
  · have hG : stepG (mvP d) mode d t x = atG (mvP d) d t x := by unfold stepG; rw [if_neg k0, if_neg k1, if_neg k10, if_pos k7]
    rw [hG]
    have cw := pair_at B pb d mode WV T0 T1 t x _ hA n hok h3 h6 k7 (by omega)
    unfold stV at cw ⊢
    clear h hA hcA hG hok hbx k0 k1 k10
    go_enter Try.func15, Try.ntmps15
    go_wp2_with (go_at_call 22; refine cw.mono ?_; clear cw; rintro e w2 ⟨ev, vv, WV', rfl, ho, hp, hc⟩)
    go_ret2
    exact ⟨ev, vv, WV', rfl, ho, hp, HCA.out.trans hc (fun _ _ q => q)⟩
  by_cases hm : t.main = 1
  · have hG : stepG (mvP d) mode d t x = { t with outs := t.outs ++ [(7, 0)] } := by unfold stepG lnG; rw [if_neg k0, if_neg k1, if_neg k10, if_neg k7, if_pos hm]
    rw [hG]
    rw [hm] at p8
    unfold stV
    clear h hA hcA hG hok hbx k0 k1 k10 hm
    go_enter Try.func15, Try.ntmps15
    go_wp2
    go_ret2
    exact ⟨7, 0, WV, rfl, rfl, HA.out.outs _, HCA.out⟩
  · have hm0 : t.main = 0 := hok.mn.resolve_right hm
    rw [hm0] at p8
    obtain ⟨A, c, rfl⟩ := h.wri.form
    rw [List.length_map] at *
    have hle1 := hok.le1; have hle2 := hok.le2; have hle3 := hok.le3; have hle4 := hok.le4
    have hG : stepG (mvP d) mode d t x = lnG (mvP d) mode t x := by unfold stepG; rw [if_neg k0, if_neg k1, if_neg k10, if_neg k7]
    rw [hG]
    unfold lnG
    rw [if_neg hm]
    have cd := ship_DoPair pb t.ws.length c mode t.s t.g t.p t.k A (w.alloc (.cells #[.int .i64 x.kind, .int .i64 x.site, .int .i64 x.block, .int .u8 (x.val : Int)] 35)).drew (LineB.drew hA.line) (by omega) (by omega) (by omega) (by omega) x.kind
    obtain ⟨o1, o2, o3, o4⟩ := doS_ok (mode := mode) x.kind hok.le1 hok.le2 hok.le3 hok.le5
    have o5 := doS_p t.ws.length mode t.s t.g t.p t.k x.kind
    have HWB := Lib.hid hok.wb
    have l4 := hA.line.c4
    generalize doS t.ws.length mode t.s t.g t.p t.k x.kind = r at *
    unfold stV
    clear h hA hcA hG hok hbx k0 k1 k10 hm hm0
    go_enter Try.func15, Try.ntmps15
    go_wp2
    go_region_law (go_simp; go_at_call 23; refine cd.mono ?_; rintro e w2 ⟨rfl, hl2, hg2⟩)
    all_goals
      have hcD : Ch (w.alloc (.cells #[.int .i64 x.kind, .int .i64 x.site, .int .i64 x.block, .int .u8 (x.val : Int)] 35)).drew w2 (fun b => b = pb) := (Ch.of_grown hg2).imp (fun b _ e => by injection e with e; exact e.symm)
      have hp2 : PrR w2 B pb (.slice A t.ws.length c) d mode T0 T1 { t with s := r.s, g := r.g, p := r.p, k := r.k } := (HA.out.below (Below.drew (Below.refl _ _))).boxed hcD hl2 rfl rfl rfl
      have cp := pair_put B pb d mode t.p (.slice A t.ws.length c) T0 T1 _ w2 hp2 h3 h6 o5 (by simp only; omega) (by simp only; omega) HWB.out
      have HC2 : Hid (Ch w w2 (PrF pb (.slice A t.ws.length c) d T0 T1)) := (HCA.out.drew).trans hcD (fun _ _ q => .inl q)
      clear cd hl2 hg2 hcD hp2
      go_wp2_with (go_at_call 24; refine cp.mono ?_; clear cp; rintro e w3 ⟨rfl, hp3, hc3⟩)
      go_ret2
      exact ⟨r.e, 0, _, rfl, rfl, hp3.outs _, HC2.out.trans hc3 (fun _ _ q => .inr (.inr (.inr q)))⟩
end
end Go.Proofs.Ytbhhijdpmpcdnaa

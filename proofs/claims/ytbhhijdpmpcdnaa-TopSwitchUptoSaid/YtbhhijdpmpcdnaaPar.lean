/-
  pair.change.
-/
import Derived.Test.YtbhhijdpmpcdnaaPaq
set_option linter.unusedVariables false
namespace Go.Proofs.Ytbhhijdpmpcdnaa
open Go.RowKit

/-- the box alone changed -/
theorem PrR.boxed {w w' : World} {B pb d mode : Nat} {WV : Value} {T0 T1 : Tb} {t t' : PrT ArP} (h : PrR w B pb WV d mode T0 T1 t) (hc : Ch w w' (fun b => b = pb)) (hl : LineB w' pb WV mode t'.s t'.g t'.p t'.k 48 (pairX T0 T1 t'.main t'.told)) (e1 : t'.ws = t.ws) (e2 : t'.a0 = t.a0) (e3 : t'.a1 = t.a1) : PrR w' B pb WV d mode T0 T1 t' := by
  have hG : ∀ b, b = pb → ∀ cur E m, w.heap[b]? = some (.cells cur E m) → E ≠ 66 ∧ E ≠ 5 ∧ E ≠ 33 := fun b e cur E m e' => by
    subst e
    rw [show w.heap[b]? = _ from h.line] at e'
    injection e' with e'
    injection e' with _ e
    subst e
    exact ⟨by decide, by decide, by decide⟩
  exact ⟨hl, by rw [e1]; exact h.wri.ch hc (fun b hb e => h.wri.notBox h.line (by decide) (by rw [hb, e])), by rw [e2]; exact h.tab0.chTy hc hG, by rw [e3]; exact h.tab1.chTy hc hG, h.ap, h.low, by rw [e2]; exact h.lt0, by rw [e3]; exact h.lt1⟩
theorem LineB.setX {w : World} {b mode s g p k : Nat} {V : Value} {T : TypeId} {X : List Value} (h : LineB w b V mode s g p k T X) (j : Nat) (u : Value) : LineB (w.setCell ⟨b, 6 + j, none⟩ u) b V mode s g p k T (X.set j u) := by
  have h2 : BoxV w b T (Value.int .i64 (mode : Int) :: V :: Value.int .i64 (s : Int) :: Value.int .i64 (g : Int) :: Value.int .i64 (p : Int) :: Value.int .i64 (k : Int) :: X) := h
  have h3 := h2.set (6 + j) u
  rw [show (6 + j) = j + 1 + 1 + 1 + 1 + 1 + 1 by omega] at h3
  rw [show (6 + j) = j + 1 + 1 + 1 + 1 + 1 + 1 by omega]
  exact h3
section
variable (B pb d mode : Nat) (WV : Value) (T0 T1 : Tb) (t : PrT ArP) (w : World)
set_option maxRecDepth 100000 in
set_option maxHeartbeats 4000000 in
theorem pair_change (h : PrR w B pb WV d mode T0 T1 t) (n : Nat) (hok : PrOk t n) (hn : n ≤ 100) (h3 : 3 ≤ d) (h6 : d ≤ 6) :
    Calls Try.prog 21 #[.pointer (some ⟨pb, 0, none⟩)] w (StepP w B pb WV d mode T0 T1 t (chG (mvP d) mode t) (fun e _ => .int .i64 (e : Int))) := by
  have p8 := h.line.cX (j := 2) rfl
  by_cases hm : t.main = 1
  · have hG : chG (mvP d) mode t = { t with outs := t.outs ++ [(7, 0)] } := by unfold chG; rw [if_pos hm]
    rw [hG]
    rw [hm] at p8
    have H := Lib.hid (h.outs (t.outs ++ [(7, 0)]))
    clear h hm hG hok
    go_enter Try.func21, Try.ntmps21
    go_wp2
    go_ret
    exact ⟨7, 0, WV, rfl, rfl, H.out, Ch.refl _ _⟩
  · have hm0 : t.main = 0 := hok.mn.resolve_right hm
    have hG : chG (mvP d) mode t = { t with outs := t.outs ++ [(0, 0)], told := tellG mode t, a1 := putW (mvP d) t.a1 ((t.ws.take t.g).drop t.p), p := t.g, main := 1 } := by unfold chG; rw [if_neg hm]
    rw [hG]
    rw [hm0] at p8
    obtain ⟨A, c, rfl⟩ := h.wri.form
    rw [List.length_map] at *
    have ct := ship_Told pb t.ws.length c mode t.s t.g t.p t.k A w h.line
    obtain ⟨TV, hTV⟩ : ∃ x : Nat, tellG mode t = x := ⟨_, rfl⟩
    rw [show (if mode = 1 then t.ws.length else t.k) = TV from hTV] at ct
    rw [hTV]
    -- the box: told, then put
    have f9 : w.frozen? ⟨pb, 9, none⟩ = false := h.line.free 9
    have q9 := h.line.cX (j := 3) rfl
    have hL1 := h.line.setX 3 (.int .i64 (TV : Int))
    have h1 : PrR (w.setCell ⟨pb, 9, none⟩ (.int .i64 (TV : Int))) B pb _ d mode T0 T1 { t with told := TV } := h.boxed ((Ch.refl _ _).setCell pb 9 _ (fun _ => rfl)) hL1 rfl rfl rfl
    have u3 := h1.line.c3
    have u4 := h1.line.c4
    have f4 := h1.line.free 4
    have hL2 := h1.line.set4 t.g
    have h2 : PrR ((w.setCell ⟨pb, 9, none⟩ (.int .i64 (TV : Int))).setCell ⟨pb, 4, none⟩ (.int .i64 (t.g : Int))) B pb _ d mode T0 T1 { t with told := TV, p := t.g } := h1.boxed ((Ch.refl _ _).setCell pb 4 _ (fun _ => rfl)) hL2 rfl rfl rfl
    have hc2 : Ch w ((w.setCell ⟨pb, 9, none⟩ (.int .i64 (TV : Int))).setCell ⟨pb, 4, none⟩ (.int .i64 (t.g : Int))) (PrF pb (.slice A t.ws.length c) d T0 T1) := ((Ch.refl _ _).setCell pb 9 _ (fun _ => .inl rfl)).setCell pb 4 _ (fun _ => .inl rfl)
    have hle1 := hok.le1; have hle2 := hok.le2; have hle3 := hok.le3; have hle4 := hok.le4
    have cp := pair_put B pb d mode t.p (.slice A t.ws.length c) T0 T1 { t with told := TV, p := t.g } _ h2 h3 h6 hle1 (by simp only; omega) (by simp only; omega) hok.wb
    have HC2 := Lib.hid hc2
    clear h h1 h2 hL1 hL2 hc2 hm hm0 hG hok hTV
    go_enter Try.func21, Try.ntmps21
    go_wp2_with (first
      | (go_at_call 16; refine ct.mono ?_; clear ct; rintro e w2 ⟨rfl, rfl⟩)
      | (go_at_call 24; refine cp.mono ?_; clear cp; rintro e w3 ⟨rfl, hp3, hc3⟩
         have f8 := hp3.line.free 8
         have q8 := hp3.line.cX (j := 2) rfl
         have HP3 := Lib.hid hp3
         have HC3 := Lib.hid hc3
         clear hp3 hc3))
    go_ret
    have hL := HP3.out.line.setX 2 (.int .i64 ((1 : Nat) : Int))
    exact ⟨0, 0, _, rfl, rfl, HP3.out.boxed (t' := { t with outs := t.outs ++ [(0, 0)], told := TV, a1 := putW (mvP d) t.a1 ((t.ws.take t.g).drop t.p), p := t.g, main := 1 }) ((Ch.refl _ _).setCell pb 8 _ (fun _ => rfl)) hL rfl rfl rfl, (HC2.out.trans HC3.out (fun _ _ q => .inr (.inr (.inr q)))).setCell pb 8 _ (fun _ => .inl rfl)⟩
end
end Go.Proofs.Ytbhhijdpmpcdnaa

/-
  What ship.Play and quipuref.Ship keep: the line, the writes, the answer's box and rows. Plain words first.
-/
import Derived.Test.YtglcljlafioleaaLine
import Derived.Deep.CutRange
import Derived.Deep.DeepCutAuto
set_option linter.unusedVariables false
namespace Go.Proofs.Ytglcljlafioleaa
open Go.RowKit

/-- a step: its kind, its site, its block, its value -/
structure StS where
  kind : Int
  site : Int
  block : Int
  val : Nat
def stC (x : StS) : List Value := [.int .i64 x.kind, .int .i64 x.site, .int .i64 x.block, .int .u8 (x.val : Int)]
structure ShT where
  codes : List Nat
  ws : List StS
  s : Nat
  g : Nat
  p : Nat
  k : Nat
  main : List Nat
  other : List Nat
def othS (ws : List StS) (other : List Nat) (kind : Int) (r : LineT) : List Nat :=
  if kind = 4 ∧ r.e = 0 then (match ws[r.p - 1]? with
    | none => other
    | some w => other.set w.block.toNat w.val) else other
def stepS (mode : Nat) (t : ShT) (x : StS) : ShT :=
  if x.kind = 1 then (if 0 ≤ x.block ∧ x.block < 8 then { t with codes := t.codes ++ [0], ws := t.ws ++ [x], main := t.main.set x.block.toNat x.val } else { t with codes := t.codes ++ [2] })
  else ⟨t.codes ++ [(doS t.ws.length mode t.s t.g t.p t.k x.kind).e], t.ws, (doS t.ws.length mode t.s t.g t.p t.k x.kind).s, (doS t.ws.length mode t.s t.g t.p t.k x.kind).g, (doS t.ws.length mode t.s t.g t.p t.k x.kind).p, (doS t.ws.length mode t.s t.g t.p t.k x.kind).k, t.main, othS t.ws t.other x.kind (doS t.ws.length mode t.s t.g t.p t.k x.kind)⟩
def playS (mode : Nat) (l : List StS) : Nat → ShT
  | 0 => ⟨[], [], 0, 0, 0, 0, List.replicate 8 0, List.replicate 8 0⟩
  | k + 1 => match l[k]? with
    | none => playS mode l k
    | some x => stepS mode (playS mode l k) x
theorem playS_next {mode : Nat} {l : List StS} {k : Nat} {x : StS} (h : l[k]? = some x) : playS mode l (k + 1) = stepS mode (playS mode l k) x := by rw [playS, h]
/-- what holds at each time -/
structure ShOk (t : ShT) (n : Nat) : Prop where
  le1 : t.p ≤ t.g
  le2 : t.g ≤ t.s
  le3 : t.s ≤ t.ws.length
  le4 : t.ws.length ≤ n
  le5 : t.k ≤ t.g
  cl : t.codes.length = n
  wb : ∀ x ∈ t.ws, 0 ≤ x.block ∧ x.block < 8 ∧ x.val < 256
  ml : t.main.length = 8
  ol : t.other.length = 8
theorem doS_ok {N mode s g p k : Nat} (kind : Int) (h1 : p ≤ g) (h2 : g ≤ s) (h3 : s ≤ N) (h5 : k ≤ g) : (doS N mode s g p k kind).p ≤ (doS N mode s g p k kind).g ∧ (doS N mode s g p k kind).g ≤ (doS N mode s g p k kind).s ∧ (doS N mode s g p k kind).s ≤ N ∧ (doS N mode s g p k kind).k ≤ (doS N mode s g p k kind).g := by
  unfold doS
  repeat' split
  all_goals (simp only; omega)
theorem othS_len (ws : List StS) (other : List Nat) (kind : Int) (r : LineT) : (othS ws other kind r).length = other.length := by
  unfold othS
  split
  · split
    · rfl
    · rw [List.length_set]
  · rfl
theorem ShOk.start : ShOk ⟨[], [], 0, 0, 0, 0, List.replicate 8 0, List.replicate 8 0⟩ 0 := ⟨Nat.le_refl _, Nat.le_refl _, Nat.le_refl _, Nat.le_refl _, Nat.le_refl _, rfl, by simp, by simp, by simp⟩
theorem ShOk.step {t : ShT} {n : Nat} (h : ShOk t n) (mode : Nat) (x : StS) (hx : x.val < 256) : ShOk (stepS mode t x) (n + 1) := by
  have h4 := h.le4
  unfold stepS
  by_cases h1 : x.kind = 1
  · rw [if_pos h1]
    by_cases h2 : 0 ≤ x.block ∧ x.block < 8
    · rw [if_pos h2]
      refine ⟨h.le1, h.le2, ?_, ?_, h.le5, by simp [h.cl], ?_, by simp [h.ml], h.ol⟩
      · have := h.le3; simp; omega
      · simp; omega
      · intro y hy
        rcases List.mem_append.1 hy with hy | hy
        · exact h.wb y hy
        · rw [List.mem_singleton.1 hy]; exact ⟨h2.1, h2.2, hx⟩
    · rw [if_neg h2]
      exact ⟨h.le1, h.le2, h.le3, Nat.le_succ_of_le h4, h.le5, by simp [h.cl], h.wb, h.ml, h.ol⟩
  · rw [if_neg h1]
    obtain ⟨a, b, c, d⟩ := doS_ok (mode := mode) x.kind h.le1 h.le2 h.le3 h.le5
    exact ⟨a, b, c, Nat.le_succ_of_le h4, d, by simp [h.cl], h.wb, h.ml, by rw [othS_len]; exact h.ol⟩
theorem ShOk.play {l : List StS} (hl : ∀ x ∈ l, x.val < 256) (mode : Nat) : ∀ k, k ≤ l.length → ShOk (playS mode l k) k
  | 0, _ => ShOk.start
  | k + 1, hk => by
    have hx : l[k]? = some l[k] := List.getElem?_eq_getElem (by omega)
    rw [playS_next hx]
    exact (ShOk.play hl mode k (by omega)).step mode _ (hl _ (List.mem_of_getElem? hx))

/-- the answer's box, its codes, the two rows of bytes; the writes -/
structure ShR (w : World) (B sb gm go : Nat) (CV WV : Value) (codes : List Nat) (ws : List StS) (main other : List Nat) : Prop where
  box : BoxV w sb 48 [CV, .int .i64 0, .int .i64 0, .int .i64 0, .slice (some ⟨gm, 0, none⟩) 8 8, .slice (some ⟨go, 0, none⟩) 8 8]
  cod : Own w B 24 CV (vn .i64 codes)
  wri : OwnQ w B 85 4 WV (ws.map stC)
  mai : Own w B 5 (.slice (some ⟨gm, 0, none⟩) 8 8) (vn .u8 main)
  oth : Own w B 5 (.slice (some ⟨go, 0, none⟩) 8 8) (vn .u8 other)
  ne : gm ≠ go
section
variable {w w' : World} {B sb gm go : Nat} {CV WV : Value} {codes : List Nat} {ws : List StS} {main other : List Nat} {F : Nat → Prop}
theorem ShR.ch (h : ShR w B sb gm go CV WV codes ws main other) (hc : Ch w w' F) (h1 : ¬ F sb) (h2 : ∀ b, CV.ownBlock = some b → ¬ F b) (h3 : ∀ b, WV.ownBlock = some b → ¬ F b) (h4 : ¬ F gm) (h5 : ¬ F go) : ShR w' B sb gm go CV WV codes ws main other :=
  ⟨h.box.ch hc h1, h.cod.ch hc h2, h.wri.ch hc h3, h.mai.ch hc (fun b hb => by injection hb with hb; subst hb; exact h4), h.oth.ch hc (fun b hb => by injection hb with hb; subst hb; exact h5), h.ne⟩
theorem ShR.below (h : ShR w B sb gm go CV WV codes ws main other) (hb : Below w.heap.size w w') : ShR w' B sb gm go CV WV codes ws main other :=
  ⟨h.box.below hb, h.cod.below hb (Nat.le_refl _), h.wri.below hb (Nat.le_refl _), h.mai.below hb (Nat.le_refl _), h.oth.below hb (Nat.le_refl _), h.ne⟩
theorem ShR.drewN (h : ShR w B sb gm go CV WV codes ws main other) (n : Nat) : ShR (w.drewN n) B sb gm go CV WV codes ws main other := h.below (below_drewN (Below.refl _ _) n)
theorem ShR.gmTy (h : ShR w B sb gm go CV WV codes ws main other) : ∃ cur, w.heap[gm]? = some (.cells cur 5 (0, 0)) := h.mai.ty rfl
theorem ShR.goTy (h : ShR w B sb gm go CV WV codes ws main other) : ∃ cur, w.heap[go]? = some (.cells cur 5 (0, 0)) := h.oth.ty rfl
theorem ShR.sbGm (h : ShR w B sb gm go CV WV codes ws main other) : sb ≠ gm := fun e => by obtain ⟨c, hc⟩ := h.gmTy; exact ty_ne hc h.box (by decide) e.symm
theorem ShR.sbGo (h : ShR w B sb gm go CV WV codes ws main other) : sb ≠ go := fun e => by obtain ⟨c, hc⟩ := h.goTy; exact ty_ne hc h.box (by decide) e.symm
/-- a block of another type is none of these -/
theorem ShR.chTy (h : ShR w B sb gm go CV WV codes ws main other) {b : Nat} {T : TypeId} {vs : List Value} (hb : BoxV w b T vs) (hT : T ≠ 48 ∧ T ≠ 24 ∧ T ≠ 85 ∧ T ≠ 5) (hc : Ch w w' (fun x => x = b)) : ShR w' B sb gm go CV WV codes ws main other := by
  obtain ⟨t1, t2, t3, t4⟩ := hT
  obtain ⟨c1, hc1⟩ := h.gmTy
  obtain ⟨c2, hc2⟩ := h.goTy
  exact h.ch hc (fun e => ty_ne h.box hb (Ne.symm t1) e) (fun x hx e => h.cod.notBox hb (Ne.symm t2) (by rw [hx, e])) (fun x hx e => h.wri.notBox hb (Ne.symm t3) (by rw [hx, e])) (fun e => ty_ne hc1 hb (Ne.symm t4) e) (fun e => ty_ne hc2 hb (Ne.symm t4) e)
theorem ShR.putMain (h : ShR w B sb gm go CV WV codes ws main other) (b v : Nat) : ShR (w.setCell ⟨gm, b, none⟩ (.int .u8 (v : Int))) B sb gm go CV WV codes ws (main.set b v) other := by
  obtain ⟨c1, hc1⟩ := h.gmTy
  refine ⟨h.box.setOther _ h.sbGm, h.cod.setOther _ _ (fun e => ?_), ?_, ?_, h.oth.setOther _ _ (fun e => by injection e with e; exact h.ne e.symm), h.ne⟩
  · obtain ⟨c2, hc2⟩ := h.cod.ty e; exact ty_ne hc2 hc1 (by decide) rfl
  · refine h.wri.heapAt fun x hx => Below.heap_setCell w _ _ x (fun e => ?_)
    obtain ⟨c2, hc2⟩ := h.wri.ty hx; subst e; exact ty_ne hc2 hc1 (by decide) rfl
  · have := h.mai.set b (.int .u8 (v : Int))
    rw [add_row, vn_set] at this
    exact this
theorem ShR.putOther (h : ShR w B sb gm go CV WV codes ws main other) (b v : Nat) : ShR (w.setCell ⟨go, b, none⟩ (.int .u8 (v : Int))) B sb gm go CV WV codes ws main (other.set b v) := by
  obtain ⟨c1, hc1⟩ := h.goTy
  refine ⟨h.box.setOther _ h.sbGo, h.cod.setOther _ _ (fun e => ?_), ?_, h.mai.setOther _ _ (fun e => by injection e with e; exact h.ne e), ?_, h.ne⟩
  · obtain ⟨c2, hc2⟩ := h.cod.ty e; exact ty_ne hc2 hc1 (by decide) rfl
  · refine h.wri.heapAt fun x hx => Below.heap_setCell w _ _ x (fun e => ?_)
    obtain ⟨c2, hc2⟩ := h.wri.ty hx; subst e; exact ty_ne hc2 hc1 (by decide) rfl
  · have := h.oth.set b (.int .u8 (v : Int))
    rw [add_row, vn_set] at this
    exact this
/-- the codes grew, and were laid into the box -/
theorem ShR.code (h : ShR w B sb gm go CV WV codes ws main other) {CV' : Value} {e : Nat} (ho : Own w' B 24 CV' (vn .i64 (codes ++ [e]))) (hg : w.grownBy w' CV.ownBlock) : ShR (w'.setCell ⟨sb, 0, none⟩ CV') B sb gm go CV' WV (codes ++ [e]) ws main other := by
  have hc := Ch.of_grown hg
  obtain ⟨c1, hc1⟩ := h.gmTy
  obtain ⟨c2, hc2⟩ := h.goTy
  have hb := h.box.ch hc (fun e => h.cod.notBox h.box (by decide) e)
  have hw : OwnQ w' B 85 4 WV (ws.map stC) := h.wri.ch hc (fun b hb e => by
    obtain ⟨d1, hd1⟩ := h.wri.ty hb; obtain ⟨d2, hd2⟩ := h.cod.ty e; exact ty_ne hd1 hd2 (by decide) rfl)
  have hm := h.mai.ch hc (fun b hb e => by
    injection hb with hb; subst hb; obtain ⟨d2, hd2⟩ := h.cod.ty e; exact ty_ne hc1 hd2 (by decide) rfl)
  have hq := h.oth.ch hc (fun b hb e => by
    injection hb with hb; subst hb; obtain ⟨d2, hd2⟩ := h.cod.ty e; exact ty_ne hc2 hd2 (by decide) rfl)
  refine ⟨hb.set 0 CV', ho.setOther _ _ (ho.notBox hb (by decide)), hw.heapAt fun x hx => Below.heap_setCell w' _ _ x (fun e => hw.notBox hb (by decide) (by rw [hx, e])), hm.setOther _ _ (hm.notBox hb (by decide)), hq.setOther _ _ (hq.notBox hb (by decide)), h.ne⟩
/-- a write was added; its row was laid into the line's box lb -/
theorem ShR.push (h : ShR w B sb gm go CV WV codes ws main other) {WV' : Value} {x : StS} (ho : OwnQ w' B 85 4 WV' ((ws ++ [x]).map stC)) (hg : w.grownBy w' WV.ownBlock) {lb : Nat} {T : TypeId} {vs : List Value} (hb : BoxV w' lb T vs) (hT : T ≠ 48 ∧ T ≠ 24 ∧ T ≠ 85 ∧ T ≠ 5) : ShR (w'.setCell ⟨lb, 1, none⟩ WV') B sb gm go CV WV' codes (ws ++ [x]) main other := by
  have hc := Ch.of_grown hg
  obtain ⟨c1, hc1⟩ := h.gmTy
  obtain ⟨c2, hc2⟩ := h.goTy
  have hw := h.wri
  have hr : ShR w' B sb gm go CV WV' codes (ws ++ [x]) main other := ⟨h.box.ch hc (fun e => hw.notBox h.box (by decide) e), h.cod.ch hc (fun b hb e => by
      obtain ⟨d1, hd1⟩ := h.cod.ty hb; obtain ⟨d2, hd2⟩ := hw.ty e; exact ty_ne hd1 hd2 (by decide) rfl), ho,
    h.mai.ch hc (fun b hb e => by injection hb with hb; subst hb; obtain ⟨d2, hd2⟩ := hw.ty e; exact ty_ne hc1 hd2 (by decide) rfl),
    h.oth.ch hc (fun b hb e => by injection hb with hb; subst hb; obtain ⟨d2, hd2⟩ := hw.ty e; exact ty_ne hc2 hd2 (by decide) rfl), h.ne⟩
  exact hr.chTy hb hT ((Ch.refl _ _).setCell lb 1 WV' (fun _ => rfl))
end
end Go.Proofs.Ytglcljlafioleaa

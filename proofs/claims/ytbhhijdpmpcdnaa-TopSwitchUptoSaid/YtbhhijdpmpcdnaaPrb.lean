/-
  The reference's pair in memory: the line, the writes, two arrays, the list of both, the answer's box.
-/
import Derived.Test.YtbhhijdpmpcdnaaPax
import Derived.Test.YtbhhijdpmpcdnaaShrf
import Derived.Test.YtbhhijdpmpcdnaaArm
set_option linter.unusedVariables false
namespace Go.Proofs.Ytbhhijdpmpcdnaa
open Go.RowKit

/-- where an array of the reference lies -/
structure Ab where
  a : Nat
  g : Nat
structure RefR (w : World) (B lb sg ob : Nat) (DV WV yV qV : Value) (mode : Nat) (S0 S1 : Ab) (t : PrT (List Nat × Int)) : Prop where
  line : ∃ p, (t.main = 0 → p = t.p) ∧ LineR w B lb WV yV qV mode t.s t.g p t.k
  wri : OwnQ w B 35 4 WV (t.ws.map stC)
  a0 : ArrB w B S0.a S0.g t.a0.1 t.a0.2
  a1 : ArrB w B S1.a S1.g t.a1.1 t.a1.2
  sit : BoxV w sg 56 [.pointer (some ⟨S0.a, 0, none⟩), .pointer (some ⟨S1.a, 0, none⟩)]
  out : BoxV w ob 25 [DV, .int .i64 (t.told : Int), .int .i64 (t.main : Int)]
  ne : S0.a ≠ S1.a ∧ S0.g ≠ S1.g
  low : B ≤ lb ∧ B ≤ ob ∧ B ≤ S0.a ∧ B ≤ S1.a
  l0 : t.a0.1.length = 24
  l1 : t.a1.1.length = 24
/-- the blocks that a step may change -/
def RefF (lb ob : Nat) (WV yV qV : Value) (S0 S1 : Ab) : Nat → Prop := fun b => LineF lb yV qV b ∨ WV.ownBlock = some b ∨ b = S0.a ∨ b = S0.g ∨ b = S1.a ∨ b = S1.g ∨ b = ob
/-- the types of its blocks -/
def RefT (E : TypeId) : Prop := E = 55 ∨ E = 3 ∨ E = 35 ∨ E = 58 ∨ E = 5 ∨ E = 25
section
variable {w w' : World} {B lb sg ob mode : Nat} {DV WV yV qV : Value} {S0 S1 : Ab} {t : PrT (List Nat × Int)} {F : Nat → Prop}
theorem ArrB.gTy {w : World} {B a g : Nat} {bl : List Nat} {z : Int} (h : ArrB w B a g bl z) : ∃ cur, w.heap[g]? = some (.cells cur 5 (0, 0)) := h.row.ty rfl
theorem ArrB.ch {w w' : World} {B a g : Nat} {bl : List Nat} {z : Int} (h : ArrB w B a g bl z) (hc : Ch w w' F) (h1 : ¬ F a) (h2 : ¬ F g) : ArrB w' B a g bl z :=
  ⟨(hc.block _ (Array.getElem?_eq_some_iff.1 h.box).1 h1).trans h.box, h.row.ch hc (fun b hb => by injection hb with hb; subst hb; exact h2), h.ne⟩
theorem RefR.fTy (h : RefR w B lb sg ob DV WV yV qV mode S0 S1 t) {b : Nat} (hb : RefF lb ob WV yV qV S0 S1 b) : ∃ cur E, w.heap[b]? = some (.cells cur E (0, 0)) ∧ RefT E := by
  obtain ⟨p, hp, hl⟩ := h.line
  rcases hb with hb | hb | rfl | rfl | rfl | rfl | rfl
  · obtain ⟨cur, E, h1, h2⟩ := hl.fTy hb
    exact ⟨cur, E, h1, by rcases h2 with h2 | h2 <;> simp [RefT, h2]⟩
  · obtain ⟨cur, hc⟩ := h.wri.ty hb; exact ⟨cur, _, hc, by simp [RefT]⟩
  · exact ⟨_, _, h.a0.box, by simp [RefT]⟩
  · obtain ⟨cur, hc⟩ := h.a0.gTy; exact ⟨cur, _, hc, by simp [RefT]⟩
  · exact ⟨_, _, h.a1.box, by simp [RefT]⟩
  · obtain ⟨cur, hc⟩ := h.a1.gTy; exact ⟨cur, _, hc, by simp [RefT]⟩
  · exact ⟨_, _, h.out, by simp [RefT]⟩
/-- blocks of other types changed -/
theorem RefR.chTy (h : RefR w B lb sg ob DV WV yV qV mode S0 S1 t) (hc : Ch w w' F) (hF : ∀ b, F b → ∀ cur E m, w.heap[b]? = some (.cells cur E m) → ¬ RefT E ∧ E ≠ 56) : RefR w' B lb sg ob DV WV yV qV mode S0 S1 t := by
  have hn : ∀ b, RefF lb ob WV yV qV S0 S1 b → ¬ F b := fun b hb hf => by
    obtain ⟨cur, E, h1, h2⟩ := h.fTy hb
    exact (hF b hf cur E _ h1).1 h2
  obtain ⟨p, hp, hl⟩ := h.line
  exact ⟨⟨p, hp, hl.ch hc (hn _ (.inl (.inl rfl))) (fun b hb => hn b (.inl (.inr (.inl hb)))) (fun b hb => hn b (.inl (.inr (.inr hb))))⟩,
    h.wri.ch hc (fun b hb => hn b (.inr (.inl hb))), h.a0.ch hc (hn _ (.inr (.inr (.inl rfl)))) (hn _ (.inr (.inr (.inr (.inl rfl))))),
    h.a1.ch hc (hn _ (.inr (.inr (.inr (.inr (.inl rfl)))))) (hn _ (.inr (.inr (.inr (.inr (.inr (.inl rfl))))))),
    h.sit.ch hc (fun hf => (hF _ hf _ _ _ h.sit).2 rfl), h.out.ch hc (hn _ (.inr (.inr (.inr (.inr (.inr (.inr rfl))))))), h.ne, h.low, h.l0, h.l1⟩
theorem RefR.below (h : RefR w B lb sg ob DV WV yV qV mode S0 S1 t) (hb : Below w.heap.size w w') : RefR w' B lb sg ob DV WV yV qV mode S0 S1 t :=
  h.chTy (F := fun _ => False) ⟨hb.os, hb.tape, hb.output, hb.size, fun b hl _ => hb.block b hl⟩ (fun _ hf => hf.elim)
theorem RefR.alloc (h : RefR w B lb sg ob DV WV yV qV mode S0 S1 t) (o : Obj) : RefR (w.alloc o) B lb sg ob DV WV yV qV mode S0 S1 t := h.below ((Below.refl _ _).alloc (Nat.le_refl _) o)
theorem RefR.drewN (h : RefR w B lb sg ob DV WV yV qV mode S0 S1 t) (n : Nat) : RefR (w.drewN n) B lb sg ob DV WV yV qV mode S0 S1 t := h.below (below_drewN (Below.refl _ _) n)
theorem RefR.outs (h : RefR w B lb sg ob DV WV yV qV mode S0 S1 t) (o : List (Nat × Nat)) : RefR w B lb sg ob DV WV yV qV mode S0 S1 { t with outs := o } := ⟨h.line, h.wri, h.a0, h.a1, h.sit, h.out, h.ne, h.low, h.l0, h.l1⟩
end
/-- what a step of the reference does -/
def RefP (w : World) (B lb sg ob : Nat) (DV WV yV qV : Value) (mode : Nat) (S0 S1 : Ab) (t t' : PrT (List Nat × Int)) (e' : Ending) (w' : World) : Prop :=
  ∃ e v WV' yV' qV', e' = .returned (.agg #[.int .i64 ((e : Nat) : Int), .int .u8 ((v : Nat) : Int)]) ∧ t'.outs = t.outs ++ [(e, v)] ∧ RefR w' B lb sg ob DV WV' yV' qV' mode S0 S1 t' ∧ Ch w w' (RefF lb ob WV yV qV S0 S1)
section
variable (B lb sg ob mode d : Nat) (DV WV yV qV : Value) (S0 S1 : Ab) (t : PrT (List Nat × Int)) (x : StS) (w : World)
set_option maxRecDepth 100000 in
set_option maxHeartbeats 2000000 in
theorem paired_kind (h : RefR w B lb sg ob DV WV yV qV mode S0 S1 t) (k0 : x.kind < 1 ∨ 10 < x.kind) :
    Calls Try.prog 17 #[.pointer (some ⟨lb, 0, none⟩), .slice (some ⟨sg, 0, none⟩) 2 2, .pointer (some ⟨ob, 0, none⟩), .int .i64 (d : Int), stV x] w (RefP w B lb sg ob DV WV yV qV mode S0 S1 t (stepG (mvB d) mode d t x)) := by
  have hG : stepG (mvB d) mode d t x = { t with outs := t.outs ++ [(6, 0)] } := by unfold stepG; rw [if_pos k0]
  rw [hG]
  unfold stV
  have hbx : BoxV (w.alloc (.cells #[.int .i64 x.kind, .int .i64 x.site, .int .i64 x.block, .int .u8 (x.val : Int)] 35)) w.heap.size 35 [.int .i64 x.kind, .int .i64 x.site, .int .i64 x.block, .int .u8 (x.val : Int)] := BoxV.new w _ _
  have hbA := hbx.alloc (.cells #[.int .i64 0, .int .u8 0] 37)
  have x0 := hbA.cell (j := 0) rfl; have x1 := hbA.cell (j := 1) rfl; have x2 := hbA.cell (j := 2) rfl; have x3 := hbA.cell (j := 3) rfl
  have hA0 := (h.alloc (.cells #[.int .i64 x.kind, .int .i64 x.site, .int .i64 x.block, .int .u8 (x.val : Int)] 35)).alloc (.cells #[.int .i64 0, .int .u8 0] 37)
  have om := hA0.out.cell (j := 2) rfl
  have HA := Lib.hid ((h.alloc (.cells #[.int .i64 x.kind, .int .i64 x.site, .int .i64 x.block, .int .u8 (x.val : Int)] 35)).alloc (.cells #[.int .i64 6, .int .u8 0] 37))
  have HC : Hid (Ch w ((w.alloc (.cells #[.int .i64 x.kind, .int .i64 x.site, .int .i64 x.block, .int .u8 (x.val : Int)] 35)).alloc (.cells #[.int .i64 6, .int .u8 0] 37)) (RefF lb ob WV yV qV S0 S1)) := ((Ch.refl _ _).alloc _).alloc _
  have hrb : BoxV ((w.alloc (.cells #[.int .i64 x.kind, .int .i64 x.site, .int .i64 x.block, .int .u8 (x.val : Int)] 35)).alloc (.cells #[.int .i64 6, .int .u8 0] 37)) (w.heap.size + 1) 37 [.int .i64 6, .int .u8 0] := by
    have := BoxV.new (w.alloc (.cells #[.int .i64 x.kind, .int .i64 x.site, .int .i64 x.block, .int .u8 (x.val : Int)] 35)) [.int .i64 6, .int .u8 0] 37
    simpa using this
  have F0 := hrb.cell (j := 0) rfl; have F1 := hrb.cell (j := 1) rfl
  have FF := Lib.hid F0; have FG := Lib.hid F1
  clear h hG hbx hbA hA0 hrb F0 F1
  by_cases k1 : x.kind < 1
  · clear k0 om x1 x2 x3
    go_enter Try.func17, Try.ntmps17
    go_wp2
    refine bodyPost_ret (v := .agg #[.int .i64 6, .int .u8 0]) (by simp [results, Try.f17, go_sem, FF.out, FG.out]) rfl ?_
    exact ⟨6, 0, WV, yV, qV, rfl, rfl, HA.out.outs _, HC.out⟩
  · have k2 : 10 < x.kind := by omega
    clear k0 om x1 x2 x3
    go_enter Try.func17, Try.ntmps17
    go_wp2
    refine bodyPost_ret (v := .agg #[.int .i64 6, .int .u8 0]) (by simp [results, Try.f17, go_sem, FF.out, FG.out]) rfl ?_
    exact ⟨6, 0, WV, yV, qV, rfl, rfl, HA.out.outs _, HC.out⟩
set_option maxRecDepth 100000 in
set_option maxHeartbeats 2000000 in
theorem paired_wbad (h : RefR w B lb sg ob DV WV yV qV mode S0 S1 t) (k1 : x.kind = 1) (hb : x.block < 0 ∨ 24 ≤ x.block) :
    Calls Try.prog 17 #[.pointer (some ⟨lb, 0, none⟩), .slice (some ⟨sg, 0, none⟩) 2 2, .pointer (some ⟨ob, 0, none⟩), .int .i64 (d : Int), stV x] w (RefP w B lb sg ob DV WV yV qV mode S0 S1 t (stepG (mvB d) mode d t x)) := by
  have hG : stepG (mvB d) mode d t x = { t with outs := t.outs ++ [(2, 0)] } := by unfold stepG wrG; rw [if_neg (by omega), if_pos k1, if_pos hb]
  rw [hG]
  unfold stV
  have hbx : BoxV (w.alloc (.cells #[.int .i64 x.kind, .int .i64 x.site, .int .i64 x.block, .int .u8 (x.val : Int)] 35)) w.heap.size 35 [.int .i64 x.kind, .int .i64 x.site, .int .i64 x.block, .int .u8 (x.val : Int)] := BoxV.new w _ _
  have hbA := hbx.alloc (.cells #[.int .i64 0, .int .u8 0] 37)
  have x0 := hbA.cell (j := 0) rfl; have x1 := hbA.cell (j := 1) rfl; have x2 := hbA.cell (j := 2) rfl; have x3 := hbA.cell (j := 3) rfl
  have hA0 := (h.alloc (.cells #[.int .i64 x.kind, .int .i64 x.site, .int .i64 x.block, .int .u8 (x.val : Int)] 35)).alloc (.cells #[.int .i64 0, .int .u8 0] 37)
  have om := hA0.out.cell (j := 2) rfl
  have HA := Lib.hid ((h.alloc (.cells #[.int .i64 x.kind, .int .i64 x.site, .int .i64 x.block, .int .u8 (x.val : Int)] 35)).alloc (.cells #[.int .i64 2, .int .u8 0] 37))
  have HC : Hid (Ch w ((w.alloc (.cells #[.int .i64 x.kind, .int .i64 x.site, .int .i64 x.block, .int .u8 (x.val : Int)] 35)).alloc (.cells #[.int .i64 2, .int .u8 0] 37)) (RefF lb ob WV yV qV S0 S1)) := ((Ch.refl _ _).alloc _).alloc _
  have hrb : BoxV ((w.alloc (.cells #[.int .i64 x.kind, .int .i64 x.site, .int .i64 x.block, .int .u8 (x.val : Int)] 35)).alloc (.cells #[.int .i64 2, .int .u8 0] 37)) (w.heap.size + 1) 37 [.int .i64 2, .int .u8 0] := by
    have := BoxV.new (w.alloc (.cells #[.int .i64 x.kind, .int .i64 x.site, .int .i64 x.block, .int .u8 (x.val : Int)] 35)) [.int .i64 2, .int .u8 0] 37
    simpa using this
  have F0 := hrb.cell (j := 0) rfl; have F1 := hrb.cell (j := 1) rfl
  have FF := Lib.hid F0; have FG := Lib.hid F1
  clear h hG hbx hbA hA0 hrb F0 F1
  have t1 : (x.kind == 1) = true := by simpa using k1
  have j0 : ¬ x.kind < 1 := by omega
  have j1 : ¬ 10 < x.kind := by omega
  by_cases b0 : x.block < 0
  · clear hb k1 om x1 x3
    go_enter Try.func17, Try.ntmps17
    go_wp2
    refine bodyPost_ret (v := .agg #[.int .i64 2, .int .u8 0]) (by simp [results, Try.f17, go_sem, FF.out, FG.out]) rfl ?_
    exact ⟨2, 0, WV, yV, qV, rfl, rfl, HA.out.outs _, HC.out⟩
  · have b1 : 24 ≤ x.block := by omega
    clear hb k1 om x1 x3
    go_enter Try.func17, Try.ntmps17
    go_wp2
    refine bodyPost_ret (v := .agg #[.int .i64 2, .int .u8 0]) (by simp [results, Try.f17, go_sem, FF.out, FG.out]) rfl ?_
    exact ⟨2, 0, WV, yV, qV, rfl, rfl, HA.out.outs _, HC.out⟩
set_option maxRecDepth 100000 in
set_option maxHeartbeats 2000000 in
theorem paired_hold (h : RefR w B lb sg ob DV WV yV qV mode S0 S1 t) (k : (2 ≤ x.kind ∧ x.kind ≤ 6) ∨ x.kind = 10) (hm : t.main = 1) :
    Calls Try.prog 17 #[.pointer (some ⟨lb, 0, none⟩), .slice (some ⟨sg, 0, none⟩) 2 2, .pointer (some ⟨ob, 0, none⟩), .int .i64 (d : Int), stV x] w (RefP w B lb sg ob DV WV yV qV mode S0 S1 t (stepG (mvB d) mode d t x)) := by
  have hG : stepG (mvB d) mode d t x = { t with outs := t.outs ++ [(7, 0)] } := by unfold stepG; rw [if_neg (by omega), if_neg (by omega)]; by_cases k10 : x.kind = 10; (rw [if_pos k10]; unfold chG; rw [if_pos hm]); (rw [if_neg k10, if_neg (by omega)]; unfold lnG; rw [if_pos hm])
  rw [hG]
  unfold stV
  have hbx : BoxV (w.alloc (.cells #[.int .i64 x.kind, .int .i64 x.site, .int .i64 x.block, .int .u8 (x.val : Int)] 35)) w.heap.size 35 [.int .i64 x.kind, .int .i64 x.site, .int .i64 x.block, .int .u8 (x.val : Int)] := BoxV.new w _ _
  have hbA := hbx.alloc (.cells #[.int .i64 0, .int .u8 0] 37)
  have x0 := hbA.cell (j := 0) rfl; have x1 := hbA.cell (j := 1) rfl; have x2 := hbA.cell (j := 2) rfl; have x3 := hbA.cell (j := 3) rfl
  have hA0 := (h.alloc (.cells #[.int .i64 x.kind, .int .i64 x.site, .int .i64 x.block, .int .u8 (x.val : Int)] 35)).alloc (.cells #[.int .i64 0, .int .u8 0] 37)
  have om := hA0.out.cell (j := 2) rfl
  have HA := Lib.hid ((h.alloc (.cells #[.int .i64 x.kind, .int .i64 x.site, .int .i64 x.block, .int .u8 (x.val : Int)] 35)).alloc (.cells #[.int .i64 7, .int .u8 0] 37))
  have HC : Hid (Ch w ((w.alloc (.cells #[.int .i64 x.kind, .int .i64 x.site, .int .i64 x.block, .int .u8 (x.val : Int)] 35)).alloc (.cells #[.int .i64 7, .int .u8 0] 37)) (RefF lb ob WV yV qV S0 S1)) := ((Ch.refl _ _).alloc _).alloc _
  have hrb : BoxV ((w.alloc (.cells #[.int .i64 x.kind, .int .i64 x.site, .int .i64 x.block, .int .u8 (x.val : Int)] 35)).alloc (.cells #[.int .i64 7, .int .u8 0] 37)) (w.heap.size + 1) 37 [.int .i64 7, .int .u8 0] := by
    have := BoxV.new (w.alloc (.cells #[.int .i64 x.kind, .int .i64 x.site, .int .i64 x.block, .int .u8 (x.val : Int)] 35)) [.int .i64 7, .int .u8 0] 37
    simpa using this
  have F0 := hrb.cell (j := 0) rfl; have F1 := hrb.cell (j := 1) rfl
  have FF := Lib.hid F0; have FG := Lib.hid F1
  rw [hm] at om
  clear h hG hbx hbA hA0 hrb F0 F1 hm
  have t1 : (x.kind == 1) = false := by simp; omega
  have j0 : ¬ x.kind < 1 := by omega
  have j1 : ¬ 10 < x.kind := by omega
  by_cases k7 : 7 ≤ x.kind
  · have k9 : ¬ x.kind ≤ 9 := by omega
    clear k x1 x2 x3
    go_enter Try.func17, Try.ntmps17
    go_wp2
    refine bodyPost_ret (v := .agg #[.int .i64 7, .int .u8 0]) (by simp [results, Try.f17, go_sem, FF.out, FG.out]) rfl ?_
    exact ⟨7, 0, WV, yV, qV, rfl, rfl, HA.out.outs _, HC.out⟩
  · clear k x1 x2 x3
    go_enter Try.func17, Try.ntmps17
    go_wp2
    refine bodyPost_ret (v := .agg #[.int .i64 7, .int .u8 0]) (by simp [results, Try.f17, go_sem, FF.out, FG.out]) rfl ?_
    exact ⟨7, 0, WV, yV, qV, rfl, rfl, HA.out.outs _, HC.out⟩
end
section
variable {w w0 : World} {B lb sg ob mode rb j : Nat} {DV WV yV qV : Value} {S0 S1 : Ab} {t : PrT (List Nat × Int)} {F : Nat → Prop} {vs : List Value}
theorem RefR.setDone (h : RefR w B lb sg ob DV WV yV qV mode S0 S1 t) (hrb : BoxV w rb 37 vs) (u : Value) : RefR (w.setCell ⟨rb, j, none⟩ u) B lb sg ob DV WV yV qV mode S0 S1 t :=
  h.chTy ((Ch.refl w (fun b => b = rb)).setCell rb j u (fun _ => rfl)) (fun b e cur E m hE => by
    subst e
    rw [show w.heap[b]? = _ from hrb] at hE
    injection hE with hE
    injection hE with _ e
    subst e
    exact ⟨by unfold RefT; decide, by decide⟩)
theorem Ch.setNew (hc : Ch w0 w F) (hnew : w0.heap.size ≤ rb) (u : Value) : Ch w0 (w.setCell ⟨rb, j, none⟩ u) F := hc.setCell rb j u (fun h => absurd h (by omega))
end
end Go.Proofs.Ytbhhijdpmpcdnaa

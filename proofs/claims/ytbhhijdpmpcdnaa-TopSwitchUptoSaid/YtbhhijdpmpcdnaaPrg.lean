/-
  quipuref.paired: a write where the first site is the main one.
-/
import Derived.Test.YtbhhijdpmpcdnaaPrf
set_option linter.unusedVariables false
namespace Go.Proofs.Ytbhhijdpmpcdnaa
open Go.RowKit

section
variable (B lb sg ob mode d : Nat) (DV WV yV qV : Value) (S0 S1 : Ab) (t : PrT (List Nat × Int)) (site : Int) (b v : Nat) (w : World)
set_option maxRecDepth 100000 in
set_option maxHeartbeats 4000000 in
theorem paired_write0 (h : RefR w B lb sg ob DV WV yV qV mode S0 S1 t) (hb : b < 24) (hm : t.main = 0) (hn : t.ws.length < 1000) :
    Calls Try.prog 17 #[.pointer (some ⟨lb, 0, none⟩), .slice (some ⟨sg, 0, none⟩) 2 2, .pointer (some ⟨ob, 0, none⟩), .int .i64 (d : Int), stV ⟨1, site, (b : Int), v⟩] w (RefP w B lb sg ob DV WV yV qV mode S0 S1 t (stepG (mvB d) mode d t ⟨1, site, (b : Int), v⟩)) := by
  have hG : stepG (mvB d) mode d t ⟨1, site, (b : Int), v⟩ = { t with outs := t.outs ++ [(0, 0)], a0 := (t.a0.1.set b v, t.a0.2), ws := t.ws ++ [(⟨1, site, (b : Int), v⟩ : StS)] } := by
    unfold stepG; rw [if_neg (by simp), if_pos rfl]; unfold wrG; rw [if_neg (by simp; omega), if_pos hm]
    have : (mvB d t.a0 1 (b : Int) v).a = (t.a0.1.set b v, t.a0.2) := by
      unfold mvB mvR
      rw [if_neg (by omega), if_neg (by simp; omega), if_neg (by decide), if_neg (by decide), if_neg (by decide), Int.toNat_natCast]
    simp only [this]
  rw [hG]
  unfold stV
  simp only
  have hbx : BoxV (w.alloc (.cells #[.int .i64 1, .int .i64 site, .int .i64 (b : Int), .int .u8 (v : Int)] 35)) w.heap.size 35 [Value.int .i64 1, .int .i64 site, .int .i64 (b : Int), .int .u8 (v : Int)] := BoxV.new w _ _
  have hbA := hbx.alloc (.cells #[.int .i64 0, .int .u8 0] 37)
  have x0 := hbA.cell (j := 0) rfl; have x2 := hbA.cell (j := 2) rfl; have x3 := hbA.cell (j := 3) rfl
  have hA0 := (h.alloc (.cells #[.int .i64 1, .int .i64 site, .int .i64 (b : Int), .int .u8 (v : Int)] 35)).alloc (.cells #[.int .i64 0, .int .u8 0] 37)
  have om := hA0.out.cell (j := 2) rfl
  rw [hm] at om
  have s1 := hA0.sit.cell (j := 0) rfl
  have a1 : ((w.alloc (.cells #[.int .i64 1, .int .i64 site, .int .i64 (b : Int), .int .u8 (v : Int)] 35)).alloc (.cells #[.int .i64 0, .int .u8 0] 37)).cell? ⟨S0.a, 0, none⟩ = some (.slice (some ⟨S0.g, 0, none⟩) 24 24) := by simp [World.cell?, hA0.a0.box]
  have l24 := h.l0
  obtain ⟨o, ho⟩ : ∃ o : Nat, t.a0.1[b]? = some o := ⟨_, List.getElem?_eq_getElem (by omega)⟩
  have o0 := hA0.a0.row.cellAt (j := b) hb
  have o1 := hA0.a0.row.frozenAt b
  rw [show (vn .u8 t.a0.1)[b]? = some (.int .u8 (o : Int)) by simp [vn, ho]] at o0
  rw [add_row] at o0 o1
  have hrb : BoxV ((w.alloc (.cells #[.int .i64 1, .int .i64 site, .int .i64 (b : Int), .int .u8 (v : Int)] 35)).alloc (.cells #[.int .i64 0, .int .u8 0] 37)) (w.heap.size + 1) 37 [.int .i64 0, .int .u8 0] := by
    have := BoxV.new (w.alloc (.cells #[.int .i64 1, .int .i64 site, .int .i64 (b : Int), .int .u8 (v : Int)] 35)) [.int .i64 0, .int .u8 0] 37
    simpa using this
  have hC : Ch w ((w.alloc (.cells #[.int .i64 1, .int .i64 site, .int .i64 (b : Int), .int .u8 (v : Int)] 35)).alloc (.cells #[.int .i64 0, .int .u8 0] 37)) (RefF lb ob WV yV qV S0 S1) := ((Ch.refl _ _).alloc _).alloc _
  have i1 : ¬ (b : Int) < 0 := by omega
  have i2 : ¬ 24 ≤ (b : Int) := by omega
  obtain ⟨WA, c1, hWV⟩ := h.wri.form
  rw [List.length_map] at hWV
  have HA := Lib.hid hA0
  have HC := Lib.hid hC
  have HRB := Lib.hid hrb
  have HBX := Lib.hid hbA
  have HM := Lib.hid hm
  have HWV := Lib.hid hWV
  clear h hG hbx hbA hA0 hrb hC ho hm hWV
  go_enter Try.func17, Try.ntmps17
  go_wp2
  go_region
  clear x0 x2 x3 om s1 a1 o0 o1
  have hcs : Ch ((w.alloc (.cells #[.int .i64 1, .int .i64 site, .int .i64 (b : Int), .int .u8 (v : Int)] 35)).alloc (.cells #[.int .i64 0, .int .u8 0] 37)) (((w.alloc (.cells #[.int .i64 1, .int .i64 site, .int .i64 (b : Int), .int .u8 (v : Int)] 35)).alloc (.cells #[.int .i64 0, .int .u8 0] 37)).setCell ⟨S0.g, b, none⟩ (.int .u8 (v : Int))) (fun q => q = S0.a ∨ q = S0.g) := (Ch.refl _ _).setCell S0.g b _ (fun _ => .inr rfl)
  have hp := (HA.out.ch0 (a := (t.a0.1.set b v, t.a0.2)) (HA.out.a0.set b v) hcs (by simp [l24])).drewN 1
  have hc := ((HC.out.trans hcs (fun q _ e => by rcases e with e | e; exact .inr (.inr (.inl e)); exact .inr (.inr (.inr (.inl e))))).drewN 1)
  obtain ⟨cg, hcg⟩ := HA.out.a0.gTy
  have hr : BoxV ((((w.alloc (.cells #[.int .i64 1, .int .i64 site, .int .i64 (b : Int), .int .u8 (v : Int)] 35)).alloc (.cells #[.int .i64 0, .int .u8 0] 37)).setCell ⟨S0.g, b, none⟩ (.int .u8 (v : Int))).drewN 1) (w.heap.size + 1) 37 [.int .i64 0, .int .u8 0] := (HRB.out.setOther (c := S0.g) (j := b) _ (Ne.symm (ty_ne hcg HRB.out (by decide)))).drewN 1
  have hx : BoxV ((((w.alloc (.cells #[.int .i64 1, .int .i64 site, .int .i64 (b : Int), .int .u8 (v : Int)] 35)).alloc (.cells #[.int .i64 0, .int .u8 0] 37)).setCell ⟨S0.g, b, none⟩ (.int .u8 (v : Int))).drewN 1) w.heap.size 35 [Value.int .i64 1, .int .i64 site, .int .i64 (b : Int), .int .u8 (v : Int)] := (HBX.out.setOther (c := S0.g) (j := b) _ (Ne.symm (ty_ne hcg HBX.out (by decide)))).drewN 1
  obtain ⟨W, hW⟩ : ∃ x, x = (((w.alloc (.cells #[.int .i64 1, .int .i64 site, .int .i64 (b : Int), .int .u8 (v : Int)] 35)).alloc (.cells #[.int .i64 0, .int .u8 0] 37)).setCell ⟨S0.g, b, none⟩ (.int .u8 (v : Int))).drew := ⟨_, rfl⟩
  have hWe : (((w.alloc (.cells #[.int .i64 1, .int .i64 site, .int .i64 (b : Int), .int .u8 (v : Int)] 35)).alloc (.cells #[.int .i64 0, .int .u8 0] 37)).setCell ⟨S0.g, b, none⟩ (.int .u8 (v : Int))).drewN 1 = W := by rw [hW]; rfl
  rw [hWe] at hp hc hr hx
  rw [← hW]
  clear hW hWe hcs hcg HA HC HRB HBX
  rw [HWV.out] at hp
  have HCW : Hid (Ch w W (RefF lb ob WV yV qV S0 S1)) := hc
  rw [HWV.out] at hc
  have om := hp.out.cell (j := 2) rfl
  rw [show (Value.int .i64 (t.main : Int)) = .int .i64 0 by rw [HM.out]; rfl] at om
  obtain ⟨p, hp0, hl⟩ := hp.line
  have y0 := hx.cell (j := 0) rfl; have y1 := hx.cell (j := 1) rfl; have y2 := hx.cell (j := 2) rfl; have y3 := hx.cell (j := 3) rfl
  have l1 := hl.box.cell (j := 1) rfl
  have hbA := hx.alloc (.cells #[.int .i64 1, .int .i64 site, .int .i64 (b : Int), .int .u8 (v : Int)] 35)
  have z0 := hbA.cell (j := 0) rfl; have z1 := hbA.cell (j := 1) rfl; have z2 := hbA.cell (j := 2) rfl; have z3 := hbA.cell (j := 3) rfl
  have hlA := hl.box.alloc (.cells #[.int .i64 1, .int .i64 site, .int .i64 (b : Int), .int .u8 (v : Int)] 35)
  have l2 := hlA.cell (j := 1) rfl
  have HLA := Lib.hid hlA
  have HQ := Lib.hid (hp.wri.alloc (.cells #[.int .i64 1, .int .i64 site, .int .i64 (b : Int), .int .u8 (v : Int)] 35)).drew
  have HPD : Hid (RefR (W.alloc (.cells #[.int .i64 1, .int .i64 site, .int .i64 (b : Int), .int .u8 (v : Int)] 35)).drew B lb sg ob DV (.slice WA t.ws.length c1) yV qV mode S0 S1 { t with a0 := (t.a0.1.set b v, t.a0.2) }) := (hp.alloc (.cells #[.int .i64 1, .int .i64 site, .int .i64 (b : Int), .int .u8 (v : Int)] 35)).drewN 1
  have HRD : Hid (BoxV (W.alloc (.cells #[.int .i64 1, .int .i64 site, .int .i64 (b : Int), .int .u8 (v : Int)] 35)).drew (w.heap.size + 1) 37 [.int .i64 0, .int .u8 0]) := (hr.alloc (.cells #[.int .i64 1, .int .i64 site, .int .i64 (b : Int), .int .u8 (v : Int)] 35)).drew
  have HNEW : Hid (∀ j u, [Value.int .i64 1, .int .i64 site, .int .i64 (b : Int), .int .u8 (v : Int)][j]? = some u → (W.alloc (.cells #[.int .i64 1, .int .i64 site, .int .i64 (b : Int), .int .u8 (v : Int)] 35)).drew.cell? ((⟨W.heap.size, 0, none⟩ : Addr).add j) = some u) := fun j u hu => by
    rw [add_row]; exact (BoxV.new W [Value.int .i64 1, .int .i64 site, .int .i64 (b : Int), .int .u8 (v : Int)] 35).cell hu
  have HYS : Hid (t.ws.map stC ++ [[Value.int .i64 1, .int .i64 site, .int .i64 (b : Int), .int .u8 (v : Int)]] = (t.ws ++ [(⟨1, site, (b : Int), v⟩ : StS)]).map stC) := by unfold Hid; simp [stC]
  have HLOW : Hid (B ≤ W.heap.size) := by have h1 := hp.low.1; have h2 := hl.box.lt; unfold Hid; omega
  have HCD := Lib.hid hc
  clear hbA hlA hp hc hr hx hl hp0
  go_wp2
  go_region_law (refine step_appQs el_stepP rfl (.tmp 64) (.tmp 66) rfl rfl HQ.out ⟨W.heap.size, 0, none⟩ 1 [Value.int .i64 1, .int .i64 site, .int .i64 (b : Int), .int .u8 (v : Int)] ((t.ws ++ [(⟨1, site, (b : Int), v⟩ : StS)]).map stC) (t.ws.length + 1) HYS (by simp [Hid]) rfl rfl HNEW.out (by intro u hu; simp only [List.mem_cons, List.not_mem_nil, or_false] at hu; rcases hu with rfl | rfl | rfl | rfl <;> rfl) (by unfold maxLen; omega) (by omega) (by have := HLOW.out; simp; omega) ?_; intro A3 k3 w3 ho3 hg3 hat3; have hb3 : BoxV w3 lb _ _ := HLA.out.drew.ch (Ch.of_grown hg3) (fun e => HQ.out.notBox HLA.out.drew (by decide) e); have e3 := hb3.cell (j := 1) rfl; have f3 := hb3.free 1)
  all_goals
    have hp3 := HPD.out.push (x := (⟨1, site, (b : Int), v⟩ : StS)) ho3 hg3
    have hr3 := (HRD.out.ch (Ch.of_grown hg3) (fun e => HQ.out.notBox HRD.out (by decide) e)).setOther (c := lb) (j := 1) (.slice A3 (t.ws.length + 1) k3) (ty_ne (HRD.out.ch (Ch.of_grown hg3) (fun e => HQ.out.notBox HRD.out (by decide) e)) hb3 (by decide))
    have hc3 := (((HCD.out.alloc (.cells #[.int .i64 1, .int .i64 site, .int .i64 (b : Int), .int .u8 (v : Int)] 35)).drew.trans (Ch.of_grown hg3) (fun q _ e => .inr (.inl e))).setCell lb 1 (.slice A3 (t.ws.length + 1) k3) (fun _ => .inl (.inl rfl)))
    have r0 := hr3.cell (j := 0) rfl; have r1 := hr3.cell (j := 1) rfl; have r2 := hr3.free 0; have r3 := hr3.free 1
    have HP := Lib.hid hp3; have HC := Lib.hid hc3; have HR := Lib.hid hr3
    clear hp3 hr3 hc3 ho3 hg3 hat3 hb3 e3 f3 l1 l2 y0 y1 y2 y3 z0 z1 z2 z3 om
    go_wp2_with fail
    have hB1 := HR.out.set 0 (.int .i64 0)
    have hB2 := hB1.set 1 (.int .u8 0)
    have F0 := hB2.cell (j := 0) rfl; have F1 := hB2.cell (j := 1) rfl
    have hps := ((HP.out.setDone HR.out (j := 0) (.int .i64 0)).setDone hB1 (j := 1) (.int .u8 0)).outs (t.outs ++ [(0, 0)])
    have hcs := (HC.out.setNew (by omega) (rb := w.heap.size + 1) (j := 0) (.int .i64 0)).setNew (by omega) (rb := w.heap.size + 1) (j := 1) (.int .u8 0)
    rw [← HWV.out] at hcs
    refine bodyPost_ret (v := .agg #[.int .i64 0, .int .u8 0]) (by simp [results, Try.f17, go_sem, F0, F1]) rfl ?_
    exact ⟨0, 0, _, yV, qV, rfl, rfl, hps, hcs⟩
end
end Go.Proofs.Ytbhhijdpmpcdnaa

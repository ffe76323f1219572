/-
  quipuref.paired: the line's steps where the first site is the main one.
-/
import Derived.Test.YtbhhijdpmpcdnaaPrh
import Derived.BigRegion
set_option linter.unusedVariables false
namespace Go.Proofs.Ytbhhijdpmpcdnaa
open Go.RowKit

section
variable (B lb sg ob mode d c1 : Nat) (DV yV qV : Value) (WA : Option Addr) (S0 S1 : Ab) (t : PrT (List Nat × Int)) (z site block : Int) (v : Nat) (w : World)
set_option maxRecDepth 100000 in
set_option maxHeartbeats 4000000 in
theorem paired_line_no (h : RefR w B lb sg ob DV (.slice WA t.ws.length c1) yV qV mode S0 S1 t) (hm : t.main = 0) (k2 : 2 ≤ z) (k6 : z ≤ 6) (hN : t.ws.length ≤ 1000) (q1 : t.p ≤ t.g) (q2 : t.g ≤ t.s) (q3 : t.s ≤ t.ws.length) (k4 : ¬ (z = 4 ∧ t.p < t.g)) :
    Calls Try.prog 17 #[.pointer (some ⟨lb, 0, none⟩), .slice (some ⟨sg, 0, none⟩) 2 2, .pointer (some ⟨ob, 0, none⟩), .int .i64 (d : Int), stV ⟨z, site, block, v⟩] w (RefP w B lb sg ob DV (.slice WA t.ws.length c1) yV qV mode S0 S1 t (stepG (mvB d) mode d t ⟨z, site, block, v⟩)) := by
  obtain ⟨r, hr⟩ : ∃ r, doS t.ws.length mode t.s t.g t.p t.k z = r := ⟨_, rfl⟩
  have hrp : r.p = t.p := by rw [← hr, doS_pz, if_neg k4]
  have hG : stepG (mvB d) mode d t ⟨z, site, block, v⟩ = { t with outs := t.outs ++ [(r.e, 0)], s := r.s, g := r.g, p := r.p, k := r.k } := by
    unfold stepG; rw [if_neg (by simp; omega), if_neg (by simp; omega), if_neg (by simp; omega), if_neg (by simp; omega)]; unfold lnG; rw [if_neg (by omega)]
    simp only [hr]
    rw [hrp, take_drop_none]
    rfl
  rw [hG]
  unfold stV
  simp only
  have hbx : BoxV (w.alloc (.cells #[.int .i64 z, .int .i64 site, .int .i64 block, .int .u8 (v : Int)] 35)) w.heap.size 35 [Value.int .i64 z, .int .i64 site, .int .i64 block, .int .u8 (v : Int)] := BoxV.new w _ _
  have hbA := hbx.alloc (.cells #[.int .i64 0, .int .u8 0] 37)
  have x0 := hbA.cell (j := 0) rfl
  have hA0 := (h.alloc (.cells #[.int .i64 z, .int .i64 site, .int .i64 block, .int .u8 (v : Int)] 35)).alloc (.cells #[.int .i64 0, .int .u8 0] 37)
  have om := hA0.out.cell (j := 2) rfl
  rw [hm] at om
  have hrb : BoxV ((w.alloc (.cells #[.int .i64 z, .int .i64 site, .int .i64 block, .int .u8 (v : Int)] 35)).alloc (.cells #[.int .i64 0, .int .u8 0] 37)) (w.heap.size + 1) 37 [.int .i64 0, .int .u8 0] := by
    have := BoxV.new (w.alloc (.cells #[.int .i64 z, .int .i64 site, .int .i64 block, .int .u8 (v : Int)] 35)) [.int .i64 0, .int .u8 0] 37
    simpa using this
  have hC : Ch w ((w.alloc (.cells #[.int .i64 z, .int .i64 site, .int .i64 block, .int .u8 (v : Int)] 35)).alloc (.cells #[.int .i64 0, .int .u8 0] 37)) (RefF lb ob (.slice WA t.ws.length c1) yV qV S0 S1) := ((Ch.refl _ _).alloc _).alloc _
  obtain ⟨p0, hp0, hl0⟩ := hA0.line
  obtain rfl : p0 = t.p := hp0 hm
  have cd := ref_Do B lb mode t.s t.g t.p t.k yV qV WA t.ws.length c1 _ hl0 hN (by omega) (by omega) (by omega) (by have := hA0.low.1; have := hl0.box.lt; omega) z k2 k6
  rw [if_neg k4, hr] at cd
  have j0 : ¬ z < 1 := by omega
  have j1 : ¬ 10 < z := by omega
  have j2 : (z == 1) = false := by simp; omega
  have j3 : ¬ 7 ≤ z := by omega
  have j4 : (z == 10) = false := by simp; omega
  have HA := Lib.hid hA0
  have HC0 := Lib.hid hC
  have HRB := Lib.hid hrb
  clear h hG hbx hbA hA0 hrb hC hm hr hrp hp0 hl0 k4
  go_enter Try.func17, Try.ntmps17
  go_wp2_with (go_at_call 26; refine cd.mono ?_; clear cd; rintro e w1 ⟨rfl, yV', qV', hl1, hg1⟩
               have HP := Lib.hid (HA.out.chDo hl1 hg1)
               have hr1 := HA.out.doBox HRB.out hg1 (by decide) (by decide)
               have HC := Lib.hid (HC0.out.trans hg1 (fun q _ e => .inl e))
               have HR := Lib.hid hr1
               have r0 := hr1.cell (j := 0) rfl; have r1 := hr1.cell (j := 1) rfl; have r2 := hr1.free 0; have r3 := hr1.free 1
               clear hl1 hg1 hr1 HA HC0 HRB x0 om)
  have hB1 := HR.out.set 0 (.int .i64 (r.e : Int))
  have hB2 := hB1.set 1 (.int .u8 0)
  have F0 := hB2.cell (j := 0) rfl; have F1 := hB2.cell (j := 1) rfl
  have hps := ((HP.out.setDone HR.out (j := 0) (.int .i64 (r.e : Int))).setDone hB1 (j := 1) (.int .u8 0)).outs (t.outs ++ [(r.e, 0)])
  have hcs := (HC.out.setNew (by omega) (rb := w.heap.size + 1) (j := 0) (.int .i64 (r.e : Int))).setNew (by omega) (rb := w.heap.size + 1) (j := 1) (.int .u8 0)
  refine bodyPost_ret (v := .agg #[.int .i64 (r.e : Int), .int .u8 0]) (by simp [results, Try.f17, go_sem, F0, F1]) rfl ?_
  exact ⟨r.e, 0, _, _, _, rfl, rfl, hps, hcs⟩
set_option maxRecDepth 100000 in
set_option maxHeartbeats 8000000 in
theorem paired_line_put (h : RefR w B lb sg ob DV (.slice WA t.ws.length c1) yV qV mode S0 S1 t) (hm : t.main = 0) (k2 : 2 ≤ z) (k6 : z ≤ 6) (hN : t.ws.length ≤ 1000) (q1 : t.p ≤ t.g) (q2 : t.g ≤ t.s) (q3 : t.s ≤ t.ws.length) (k4 : z = 4 ∧ t.p < t.g) (hwb : ∀ x ∈ t.ws, 0 ≤ x.block ∧ x.block < 24 ∧ x.val < 256) :
    Calls Try.prog 17 #[.pointer (some ⟨lb, 0, none⟩), .slice (some ⟨sg, 0, none⟩) 2 2, .pointer (some ⟨ob, 0, none⟩), .int .i64 (d : Int), stV ⟨z, site, block, v⟩] w (RefP w B lb sg ob DV (.slice WA t.ws.length c1) yV qV mode S0 S1 t (stepG (mvB d) mode d t ⟨z, site, block, v⟩)) := by
  obtain ⟨r, hr⟩ : ∃ r, doS t.ws.length mode t.s t.g t.p t.k z = r := ⟨_, rfl⟩
  have hrp : r.p = t.p + 1 := by rw [← hr, doS_pz, if_pos k4]
  obtain ⟨y, hy⟩ : ∃ y, t.ws[t.p]? = some y := ⟨_, List.getElem?_eq_getElem (by omega)⟩
  obtain ⟨hyb0, hyb8, hyv⟩ := hwb _ (List.mem_of_getElem? hy)
  obtain ⟨bb, hbb⟩ : ∃ bb : Nat, y.block = (bb : Int) := ⟨y.block.toNat, by omega⟩
  have hb24 : bb < 24 := by omega
  have hG : stepG (mvB d) mode d t ⟨z, site, block, v⟩ = { t with outs := t.outs ++ [(r.e, 0)], s := r.s, g := r.g, p := r.p, k := r.k, a1 := (t.a1.1.set bb y.val, t.a1.2) } := by
    unfold stepG; rw [if_neg (by simp; omega), if_neg (by simp; omega), if_neg (by simp; omega), if_neg (by simp; omega)]; unfold lnG; rw [if_neg (by omega)]
    simp only [hr]
    rw [hrp, take_drop_one hy]
    simp only [putW, hbb, mvB_write _ _ _ hb24]
  rw [hG]
  unfold stV
  simp only
  have hbx : BoxV (w.alloc (.cells #[.int .i64 z, .int .i64 site, .int .i64 block, .int .u8 (v : Int)] 35)) w.heap.size 35 [Value.int .i64 z, .int .i64 site, .int .i64 block, .int .u8 (v : Int)] := BoxV.new w _ _
  have hbA := hbx.alloc (.cells #[.int .i64 0, .int .u8 0] 37)
  have x0 := hbA.cell (j := 0) rfl
  have hA0 := (h.alloc (.cells #[.int .i64 z, .int .i64 site, .int .i64 block, .int .u8 (v : Int)] 35)).alloc (.cells #[.int .i64 0, .int .u8 0] 37)
  have om := hA0.out.cell (j := 2) rfl
  rw [hm] at om
  have hrb : BoxV ((w.alloc (.cells #[.int .i64 z, .int .i64 site, .int .i64 block, .int .u8 (v : Int)] 35)).alloc (.cells #[.int .i64 0, .int .u8 0] 37)) (w.heap.size + 1) 37 [.int .i64 0, .int .u8 0] := by
    have := BoxV.new (w.alloc (.cells #[.int .i64 z, .int .i64 site, .int .i64 block, .int .u8 (v : Int)] 35)) [.int .i64 0, .int .u8 0] 37
    simpa using this
  have hC : Ch w ((w.alloc (.cells #[.int .i64 z, .int .i64 site, .int .i64 block, .int .u8 (v : Int)] 35)).alloc (.cells #[.int .i64 0, .int .u8 0] 37)) (RefF lb ob (.slice WA t.ws.length c1) yV qV S0 S1) := ((Ch.refl _ _).alloc _).alloc _
  obtain ⟨p0, hp0, hl0⟩ := hA0.line
  obtain rfl : p0 = t.p := hp0 hm
  have cd := ref_Do B lb mode t.s t.g t.p t.k yV qV WA t.ws.length c1 _ hl0 hN (by omega) (by omega) (by omega) (by have := hA0.low.1; have := hl0.box.lt; omega) z k2 k6
  rw [if_pos k4, hr] at cd
  have j0 : ¬ z < 1 := by omega
  have j1 : ¬ 10 < z := by omega
  have j2 : (z == 1) = false := by simp; omega
  have j3 : ¬ 7 ≤ z := by omega
  have j4 : (z == 10) = false := by simp; omega
  have p4 : (0 : Int) ≤ (t.p : Int) := by omega
  have p5 : (t.p : Int) < (t.ws.length : Int) := by omega
  have p6 : (0 : Int) ≤ (bb : Int) := by omega
  have p7 : (bb : Int) < 24 := by omega
  have HA := Lib.hid hA0
  have HC0 := Lib.hid hC
  have HRB := Lib.hid hrb
  have HY := Lib.hid hy
  have HBB := Lib.hid hbb
  clear h hG hbx hbA hA0 hrb hC hm hr hrp hp0 hl0 k4 hwb hy hbb hyb0 hyb8
  go_enter Try.func17, Try.ntmps17
  go_wp2_with (go_at_call 26; refine cd.mono ?_; clear cd; rintro e w1 ⟨rfl, yV', qV', hl1, hg1⟩
               have hp1 := HA.out.chDo hl1 hg1
               have hr1 := HA.out.doBox HRB.out hg1 (by decide) (by decide)
               have hc1 := (HC0.out.trans hg1 (fun q _ e => .inl e))
               obtain ⟨ad, rfl, hlt, u0, u1, u2, u3, u4, ⟨o, u5⟩, u6⟩ := hp1.putCells HY.out HBB.out hb24
               have HP1 := Lib.hid hp1; have HR1 := Lib.hid hr1; have HC1 := Lib.hid hc1
               clear hl1 hg1 hp1 hr1 hc1 hlt HA HC0 HRB x0 om)
  go_region
  have hp := (HP1.out.put1 bb y.val).drewN 1
  have hr1 := (HP1.out.put1Box HR1.out (by decide) bb y.val).drewN 1
  have hc := (RefR.put1Ch HC1.out bb y.val).drewN 1
  obtain ⟨W, hW⟩ : ∃ x, x = (w1.setCell ⟨S1.g, bb, none⟩ (.int .u8 (y.val : Int))).drew := ⟨_, rfl⟩
  have hWe : (w1.setCell ⟨S1.g, bb, none⟩ (.int .u8 (y.val : Int))).drewN 1 = W := by rw [hW]; rfl
  rw [hWe] at hp hr1 hc
  rw [← hW]
  clear hW hWe HP1 HR1 HC1 u0 u1 u2 u3 u4 u5 u6
  have HP := Lib.hid hp; have HR := Lib.hid hr1; have HC := Lib.hid hc
  have r0 := hr1.cell (j := 0) rfl; have r1 := hr1.cell (j := 1) rfl; have r2 := hr1.free 0; have r3 := hr1.free 1
  clear hp hr1 hc
  go_wp2_with fail
  have hB1 := HR.out.set 0 (.int .i64 (r.e : Int))
  have hB2 := hB1.set 1 (.int .u8 0)
  have F0 := hB2.cell (j := 0) rfl; have F1 := hB2.cell (j := 1) rfl
  have hps := ((HP.out.setDone HR.out (j := 0) (.int .i64 (r.e : Int))).setDone hB1 (j := 1) (.int .u8 0)).outs (t.outs ++ [(r.e, 0)])
  have hcs := (HC.out.setNew (by omega) (rb := w.heap.size + 1) (j := 0) (.int .i64 (r.e : Int))).setNew (by omega) (rb := w.heap.size + 1) (j := 1) (.int .u8 0)
  refine bodyPost_ret (v := .agg #[.int .i64 (r.e : Int), .int .u8 0]) (by simp [results, Try.f17, go_sem, F0, F1]) rfl ?_
  exact ⟨r.e, 0, _, _, _, rfl, rfl, hps, hcs⟩
end
end Go.Proofs.Ytbhhijdpmpcdnaa

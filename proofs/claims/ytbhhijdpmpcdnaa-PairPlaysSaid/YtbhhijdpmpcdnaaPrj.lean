/-
  quipuref.paired: the switch where the first site is the main one.
-/
import Derived.Test.YtbhhijdpmpcdnaaPrh
import Derived.BigRegion
set_option linter.unusedVariables false
namespace Go.Proofs.Ytbhhijdpmpcdnaa
open Go.RowKit

theorem putW_next {d p g k : Nat} {ws : List StS} {a : List Nat × Int} {y : StS} {b : Nat} (hg : g ≤ ws.length) (hk : p + k < g) (hy : ws[p + k]? = some y) (hb : y.block = (b : Int)) (h24 : b < 24) :
    putW (mvB d) a ((ws.take (p + (k + 1))).drop p) = ((putW (mvB d) a ((ws.take (p + k)).drop p)).1.set b y.val, (putW (mvB d) a ((ws.take (p + k)).drop p)).2) := by
  have e : (ws.take (p + (k + 1))).drop p = (ws.take (p + k)).drop p ++ [y] := by
    rw [show p + (k + 1) = p + k + 1 by omega, take_next hy, List.drop_append_of_le_length (by simp; omega)]
  rw [e, putW_snoc, hb, mvB_write _ _ _ h24]
section
variable (B lb sg ob mode d c1 : Nat) (DV yV qV : Value) (WA : Option Addr) (S0 S1 : Ab) (t : PrT (List Nat × Int)) (site block : Int) (v : Nat) (w : World)
set_option maxRecDepth 100000 in
set_option maxHeartbeats 8000000 in
theorem paired_switch (h : RefR w B lb sg ob DV (.slice WA t.ws.length c1) yV qV mode S0 S1 t) (hm : t.main = 0) (hN : t.ws.length ≤ 1000) (q1 : t.p ≤ t.g) (q2 : t.g ≤ t.s) (q3 : t.s ≤ t.ws.length) (hwb : ∀ x ∈ t.ws, 0 ≤ x.block ∧ x.block < 24 ∧ x.val < 256) :
    Calls Try.prog 17 #[.pointer (some ⟨lb, 0, none⟩), .slice (some ⟨sg, 0, none⟩) 2 2, .pointer (some ⟨ob, 0, none⟩), .int .i64 (d : Int), stV ⟨10, site, block, v⟩] w (RefP w B lb sg ob DV (.slice WA t.ws.length c1) yV qV mode S0 S1 t (stepG (mvB d) mode d t ⟨10, site, block, v⟩)) := by
  have hG : stepG (mvB d) mode d t ⟨10, site, block, v⟩ = { t with outs := t.outs ++ [(0, 0)], told := tellG mode t, a1 := putW (mvB d) t.a1 ((t.ws.take t.g).drop t.p), p := t.g, main := 1 } := by
    unfold stepG; rw [if_neg (by simp), if_neg (by simp), if_pos rfl]; unfold chG; rw [if_neg (by omega)]
  rw [hG]
  unfold stV
  simp only
  have hbx : BoxV (w.alloc (.cells #[.int .i64 10, .int .i64 site, .int .i64 block, .int .u8 (v : Int)] 35)) w.heap.size 35 [Value.int .i64 10, .int .i64 site, .int .i64 block, .int .u8 (v : Int)] := BoxV.new w _ _
  have hbA := hbx.alloc (.cells #[.int .i64 0, .int .u8 0] 37)
  have x0 := hbA.cell (j := 0) rfl
  have hA0 := (h.alloc (.cells #[.int .i64 10, .int .i64 site, .int .i64 block, .int .u8 (v : Int)] 35)).alloc (.cells #[.int .i64 0, .int .u8 0] 37)
  have om := hA0.out.cell (j := 2) rfl
  have ot := hA0.out.cell (j := 1) rfl
  have of1 := hA0.out.free 1
  rw [hm] at om
  have hrb : BoxV ((w.alloc (.cells #[.int .i64 10, .int .i64 site, .int .i64 block, .int .u8 (v : Int)] 35)).alloc (.cells #[.int .i64 0, .int .u8 0] 37)) (w.heap.size + 1) 37 [.int .i64 0, .int .u8 0] := by
    have := BoxV.new (w.alloc (.cells #[.int .i64 10, .int .i64 site, .int .i64 block, .int .u8 (v : Int)] 35)) [.int .i64 0, .int .u8 0] 37
    simpa using this
  have hC : Ch w ((w.alloc (.cells #[.int .i64 10, .int .i64 site, .int .i64 block, .int .u8 (v : Int)] 35)).alloc (.cells #[.int .i64 0, .int .u8 0] 37)) (RefF lb ob (.slice WA t.ws.length c1) yV qV S0 S1) := ((Ch.refl _ _).alloc _).alloc _
  obtain ⟨p0, hp0, hl0⟩ := hA0.line
  obtain rfl : p0 = t.p := hp0 hm
  obtain ⟨TV, hTV⟩ : ∃ x : Nat, tellG mode t = x := ⟨_, rfl⟩
  have ct := ref_Told B lb mode t.s t.g t.p t.k _ yV qV _ hl0 WA t.ws.length c1 rfl
  rw [show (if mode = 1 then t.ws.length else t.k) = TV from hTV] at ct
  obtain ⟨n, hn⟩ : ∃ n, t.g - t.p = n := ⟨_, rfl⟩
  have HN : Hid (t.p + n = t.g) := by unfold Hid; omega
  obtain ⟨QA, qc, rfl⟩ := hl0.qform
  rw [hn] at hA0 hl0 hC ⊢
  have hp1 := hA0.setOut (j := 1) (u := .int .i64 (TV : Int)) (told := TV) (main := t.main) (DV' := DV) rfl (fun e => e)
  obtain ⟨p1, hp1', hl1⟩ := hp1.line
  obtain rfl : p1 = t.p := hp1' hm
  have l4 := hl1.box.cell (j := 4) rfl
  have hr1 : BoxV (((w.alloc (.cells #[.int .i64 10, .int .i64 site, .int .i64 block, .int .u8 (v : Int)] 35)).alloc (.cells #[.int .i64 0, .int .u8 0] 37)).setCell ⟨ob, 1, none⟩ (.int .i64 (TV : Int))) (w.heap.size + 1) 37 [.int .i64 0, .int .u8 0] := hrb.setOther (c := ob) (j := 1) _ (ty_ne hrb hA0.out (by decide))
  have hc1 : Ch w (((w.alloc (.cells #[.int .i64 10, .int .i64 site, .int .i64 block, .int .u8 (v : Int)] 35)).alloc (.cells #[.int .i64 0, .int .u8 0] 37)).setCell ⟨ob, 1, none⟩ (.int .i64 (TV : Int))) (RefF lb ob (.slice WA t.ws.length c1) yV (.slice QA n qc) S0 S1) := hC.setCell ob 1 _ (fun _ => .inr (.inr (.inr (.inr (.inr (.inr rfl))))))
  have HP1 := Lib.hid hp1; have HR1 := Lib.hid hr1; have HC1 := Lib.hid hc1
  have HM := Lib.hid hm; have HTV := Lib.hid hTV; have HWB := Lib.hid hwb
  have n0 : n ≤ 1000 := by omega
  clear h hG hbx hbA hA0 hrb hC hm hp0 hl0 hp1 hr1 hc1 hp1' hl1 hn hTV hwb
  go_enter Try.func17, Try.ntmps17
  go_wp2_with (go_at_call 18; refine ct.mono ?_; clear ct; rintro e w1 ⟨rfl, rfl⟩)
  clear x0 om ot of1 l4
  go_loopw [144] (fun iv wr => ∃ i : Nat, i ≤ n ∧ iv = .int .i64 (i : Int) ∧ RefR wr B lb sg ob DV (.slice WA t.ws.length c1) yV (.slice QA n qc) mode S0 S1 { t with told := TV, a1 := putW (mvB d) t.a1 ((t.ws.take (t.p + i)).drop t.p) } ∧ BoxV wr (w.heap.size + 1) 37 [.int .i64 0, .int .u8 0] ∧ Ch w wr (RefF lb ob (.slice WA t.ws.length c1) yV (.slice QA n qc) S0 S1)) (fun iv _ => n - (intOf iv).toNat)
  case atStart =>
    refine ⟨0, Nat.zero_le _, rfl, ?_, HR1.out, HC1.out⟩
    rw [Nat.add_zero, take_drop_none]
    exact HP1.out
  case round =>
    obtain ⟨i, hi, rfl, hp, hr, hc⟩ := hrel
    obtain ⟨wo, rfl⟩ : ∃ x, x = wr := ⟨_, rfl⟩
    clear HP1 HR1 HC1
    by_cases hlt : i < n
    · obtain ⟨y, hy⟩ : ∃ y, t.ws[t.p + i]? = some y := ⟨_, List.getElem?_eq_getElem (by have := HN.out; omega)⟩
      obtain ⟨hyb0, hyb8, hyv⟩ := HWB.out _ (List.mem_of_getElem? hy)
      obtain ⟨bb, hbb⟩ : ∃ bb : Nat, y.block = (bb : Int) := ⟨y.block.toNat, by omega⟩
      have hb24 : bb < 24 := by omega
      have hnx := putW_next (d := d) (p := t.p) (g := t.g) (k := i) (a := t.a1) (by omega) (by have := HN.out; omega) hy hbb hb24
      obtain ⟨ad, rfl, hlt2, u0, u1, u2, u3, u4, ⟨o, u5⟩, u6⟩ := hp.putCells hy hbb hb24
      obtain ⟨p1, hp1', hl1⟩ := hp.line
      obtain rfl : p1 = t.p := hp1' HM.out
      have hq : (natQ t.p (t.g - t.p))[i]? = some [.int .i64 ((t.p + i : Nat) : Int)] := by
        unfold natQ
        rw [List.getElem?_map, List.getElem?_range' (by have := HN.out; omega)]
        simp
      obtain ⟨qd, rfl, _, _, qs, hqc⟩ := hl1.waits.at_ hq
      have hq0 := hqc 0 _ rfl
      rw [Nat.mul_one, Nat.add_zero] at hq0
      have hqq : wo.cell? (qd.add i) = some (.int .i64 ((t.p + i : Nat) : Int)) := by
        have e : qd.add i = ⟨qd.block, qd.off + i, none⟩ := by
          obtain ⟨qb, qo, qsp⟩ := qd
          obtain rfl : qsp = none := qs
          unfold Addr.add; split <;> simp_all
        rw [e]; exact hq0
      obtain ⟨m, hmm⟩ : ∃ m, t.p + i = m := ⟨_, rfl⟩
      rw [hmm] at hqq u3 u4 hlt2
      have HMM := Lib.hid hmm
      have HP := Lib.hid (hp.put1 bb y.val)
      have HR := Lib.hid (hp.put1Box hr (by decide) bb y.val)
      have HC := Lib.hid (RefR.put1Ch hc bb y.val)
      have HNX := Lib.hid hnx
      have p4 : (0 : Int) ≤ (m : Int) := by omega
      have p5 : (m : Int) < (t.ws.length : Int) := by omega
      have p6 : (0 : Int) ≤ (bb : Int) := by omega
      have p7 : (bb : Int) < 24 := by omega
      have p8 : (0 : Int) ≤ (i : Int) := by omega
      have p9 : (i : Int) < (n : Int) := by omega
      clear hy hbb hyb0 hyb8 hnx hl1 hp1' hq hqc hq0 hmm hp hr hc hlt2 qs
      go_wp2
      go_region
      all_goals
        have hp := HP.out.drewN 1
        have hr1 := HR.out.drewN 1
        have hc := HC.out.drewN 1
        have HP2 : Hid (RefR (wo.setCell ⟨S1.g, bb, none⟩ (.int .u8 (y.val : Int))).drew B lb sg ob DV (.slice (some ad) t.ws.length c1) yV (.slice (some qd) n qc) mode S0 S1 { t with told := TV, a1 := ((putW (mvB d) t.a1 ((t.ws.take (t.p + i)).drop t.p)).1.set bb y.val, (putW (mvB d) t.a1 ((t.ws.take (t.p + i)).drop t.p)).2) }) := hp
        have HR2 : Hid (BoxV (wo.setCell ⟨S1.g, bb, none⟩ (.int .u8 (y.val : Int))).drew (w.heap.size + 1) 37 [.int .i64 0, .int .u8 0]) := hr1
        have HC2 : Hid (Ch w (wo.setCell ⟨S1.g, bb, none⟩ (.int .u8 (y.val : Int))).drew (RefF lb ob (.slice (some ad) t.ws.length c1) yV (.slice (some qd) n qc) S0 S1)) := hc
        clear hp hr1 hc HP HR HC u0 u1 u2 u3 u4 u5 u6 hqq
        go_wp2
        go_roundw
        case rel => exact ⟨i + 1, by omega, by go_num, by rw [HNX.out]; exact HP2.out, HR2.out, HC2.out⟩
        case measure => simp [intOf] <;> omega
    · obtain rfl : n = i := by omega
      rw [HN.out] at hp
      have om := hp.out.cell (j := 2) rfl
      have of2 := hp.out.free 2
      rw [show (Value.int .i64 ((({ t with told := TV, a1 := putW (mvB d) t.a1 ((t.ws.take t.g).drop t.p) } : PrT (List Nat × Int)).main : Nat) : Int)) = .int .i64 0 by rw [show (({ t with told := TV, a1 := putW (mvB d) t.a1 ((t.ws.take t.g).drop t.p) } : PrT (List Nat × Int)).main) = 0 from HM.out]; rfl] at om
      have hp2 := hp.setOut (j := 2) (u := .int .i64 1) (told := TV) (main := 1) (DV' := DV) rfl (fun e => by omega)
      have hr2 := hr.setOther (c := ob) (j := 2) (.int .i64 1) (ty_ne hr hp.out (by decide))
      have hc2 := hc.setCell ob 2 (.int .i64 1) (fun _ => .inr (.inr (.inr (.inr (.inr (.inr rfl))))))
      have r0 := hr2.cell (j := 0) rfl; have r1 := hr2.cell (j := 1) rfl; have r2 := hr2.free 0; have r3 := hr2.free 1
      have HP := Lib.hid hp2; have HR := Lib.hid hr2; have HC := Lib.hid hc2
      clear hp hr hc hp2 hr2 hc2 hi
      go_wp2_with fail
      have hB1 := HR.out.set 0 (.int .i64 0)
      have hB2 := hB1.set 1 (.int .u8 0)
      have F0 := hB2.cell (j := 0) rfl; have F1 := hB2.cell (j := 1) rfl
      have hps := ((HP.out.setDone HR.out (j := 0) (.int .i64 0)).setDone hB1 (j := 1) (.int .u8 0))
      have hcs := (HC.out.setNew (by omega) (rb := w.heap.size + 1) (j := 0) (.int .i64 0)).setNew (by omega) (rb := w.heap.size + 1) (j := 1) (.int .u8 0)
      refine bodyPost_ret (v := .agg #[.int .i64 0, .int .u8 0]) (by simp [results, Try.f17, go_sem, F0, F1]) rfl ?_
      refine ⟨0, 0, .slice WA t.ws.length c1, yV, .slice QA n qc, rfl, rfl, ?_, hcs⟩
      obtain ⟨pz, _, hlz⟩ := hps.line
      rw [HTV.out]
      exact ⟨⟨pz, fun e => (by cases e), hlz⟩, hps.wri, hps.a0, hps.a1, hps.sit, hps.out, hps.ne, hps.low, hps.l0, hps.l1⟩
end
end Go.Proofs.Ytbhhijdpmpcdnaa

/-
  quipuref.paired: at a site, refused.
-/
import Derived.Test.YtbhhijdpmpcdnaaPrb
set_option linter.unusedVariables false
namespace Go.Proofs.Ytbhhijdpmpcdnaa
open Go.RowKit

section
variable (B lb sg ob mode d : Nat) (DV WV yV qV : Value) (S0 S1 : Ab) (t : PrT (List Nat × Int)) (site block : Int) (v : Nat) (w : World)
set_option maxRecDepth 100000 in
set_option maxHeartbeats 4000000 in
theorem paired_no7 (h : RefR w B lb sg ob DV WV yV qV mode S0 S1 t) (hb : site < t.main ∨ 1 < site ∨ block < 0 ∨ (d : Int) ≤ block) :
    Calls Try.prog 17 #[.pointer (some ⟨lb, 0, none⟩), .slice (some ⟨sg, 0, none⟩) 2 2, .pointer (some ⟨ob, 0, none⟩), .int .i64 (d : Int), stV ⟨7, site, block, v⟩] w (RefP w B lb sg ob DV WV yV qV mode S0 S1 t (stepG (mvB d) mode d t ⟨7, site, block, v⟩)) := by
  have hG : stepG (mvB d) mode d t ⟨7, site, block, v⟩ = { t with outs := t.outs ++ [(2, 0)] } := by
    unfold stepG; rw [if_neg (by simp), if_neg (by simp), if_neg (by simp), if_pos (by simp)]; unfold atG manyG; rw [if_pos (by simpa using hb)]
  rw [hG]
  unfold stV
  simp only
  have hbx : BoxV (w.alloc (.cells #[.int .i64 7, .int .i64 site, .int .i64 block, .int .u8 (v : Int)] 35)) w.heap.size 35 [.int .i64 7, .int .i64 site, .int .i64 block, .int .u8 (v : Int)] := BoxV.new w _ _
  have hbA := hbx.alloc (.cells #[.int .i64 0, .int .u8 0] 37)
  have x0 := hbA.cell (j := 0) rfl; have x1 := hbA.cell (j := 1) rfl; have x2 := hbA.cell (j := 2) rfl
  have hA0 := (h.alloc (.cells #[.int .i64 7, .int .i64 site, .int .i64 block, .int .u8 (v : Int)] 35)).alloc (.cells #[.int .i64 0, .int .u8 0] 37)
  have om := hA0.out.cell (j := 2) rfl
  have HA := Lib.hid hA0
  have HC : Hid (Ch w ((w.alloc (.cells #[.int .i64 7, .int .i64 site, .int .i64 block, .int .u8 (v : Int)] 35)).alloc (.cells #[.int .i64 0, .int .u8 0] 37)) (RefF lb ob WV yV qV S0 S1)) := ((Ch.refl _ _).alloc _).alloc _
  have hrb : BoxV ((w.alloc (.cells #[.int .i64 7, .int .i64 site, .int .i64 block, .int .u8 (v : Int)] 35)).alloc (.cells #[.int .i64 0, .int .u8 0] 37)) (w.heap.size + 1) 37 [.int .i64 0, .int .u8 0] := by
    have := BoxV.new (w.alloc (.cells #[.int .i64 7, .int .i64 site, .int .i64 block, .int .u8 (v : Int)] 35)) [.int .i64 0, .int .u8 0] 37
    simpa using this
  have HRB := Lib.hid hrb
  clear h hG hbx hbA hA0 hrb
  by_cases c1 : site < t.main
  · clear hb
    go_enter Try.func17, Try.ntmps17
    go_wp2
    go_quiet (fail)
    go_wp2
    have hB0 := HRB.out.drewN nq
    have hB1 := hB0.set 0 (.int .i64 2)
    have hB2 := hB1.set 1 (.int .u8 0)
    have F0 := hB2.cell (j := 0) rfl; have F1 := hB2.cell (j := 1) rfl
    refine bodyPost_ret (v := .agg #[.int .i64 2, .int .u8 0]) (by simp [results, Try.f17, go_sem, F0, F1]) rfl ?_
    exact ⟨2, 0, WV, yV, qV, rfl, rfl, (((HA.out.drewN nq).setDone hB0 _).setDone hB1 _).outs _, ((HC.out.drewN nq).setNew (by omega) _).setNew (by omega) _⟩
  by_cases c2 : 1 < site
  · clear hb
    go_enter Try.func17, Try.ntmps17
    go_wp2
    go_quiet (fail)
    go_wp2
    have hB0 := HRB.out.drewN nq
    have hB1 := hB0.set 0 (.int .i64 2)
    have hB2 := hB1.set 1 (.int .u8 0)
    have F0 := hB2.cell (j := 0) rfl; have F1 := hB2.cell (j := 1) rfl
    refine bodyPost_ret (v := .agg #[.int .i64 2, .int .u8 0]) (by simp [results, Try.f17, go_sem, F0, F1]) rfl ?_
    exact ⟨2, 0, WV, yV, qV, rfl, rfl, (((HA.out.drewN nq).setDone hB0 _).setDone hB1 _).outs _, ((HC.out.drewN nq).setNew (by omega) _).setNew (by omega) _⟩
  by_cases c3 : block < 0
  · clear hb
    go_enter Try.func17, Try.ntmps17
    go_wp2
    go_quiet (fail)
    go_wp2
    have hB0 := HRB.out.drewN nq
    have hB1 := hB0.set 0 (.int .i64 2)
    have hB2 := hB1.set 1 (.int .u8 0)
    have F0 := hB2.cell (j := 0) rfl; have F1 := hB2.cell (j := 1) rfl
    refine bodyPost_ret (v := .agg #[.int .i64 2, .int .u8 0]) (by simp [results, Try.f17, go_sem, F0, F1]) rfl ?_
    exact ⟨2, 0, WV, yV, qV, rfl, rfl, (((HA.out.drewN nq).setDone hB0 _).setDone hB1 _).outs _, ((HC.out.drewN nq).setNew (by omega) _).setNew (by omega) _⟩
  · have c4 : (d : Int) ≤ block := by omega
    clear hb
    go_enter Try.func17, Try.ntmps17
    go_wp2
    go_quiet (fail)
    go_wp2
    have hB0 := HRB.out.drewN nq
    have hB1 := hB0.set 0 (.int .i64 2)
    have hB2 := hB1.set 1 (.int .u8 0)
    have F0 := hB2.cell (j := 0) rfl; have F1 := hB2.cell (j := 1) rfl
    refine bodyPost_ret (v := .agg #[.int .i64 2, .int .u8 0]) (by simp [results, Try.f17, go_sem, F0, F1]) rfl ?_
    exact ⟨2, 0, WV, yV, qV, rfl, rfl, (((HA.out.drewN nq).setDone hB0 _).setDone hB1 _).outs _, ((HC.out.drewN nq).setNew (by omega) _).setNew (by omega) _⟩
set_option maxRecDepth 100000 in
set_option maxHeartbeats 4000000 in
theorem paired_no8 (h : RefR w B lb sg ob DV WV yV qV mode S0 S1 t) (hb : site < t.main ∨ 1 < site ∨ block < 0 ∨ (d : Int) ≤ block) :
    Calls Try.prog 17 #[.pointer (some ⟨lb, 0, none⟩), .slice (some ⟨sg, 0, none⟩) 2 2, .pointer (some ⟨ob, 0, none⟩), .int .i64 (d : Int), stV ⟨8, site, block, v⟩] w (RefP w B lb sg ob DV WV yV qV mode S0 S1 t (stepG (mvB d) mode d t ⟨8, site, block, v⟩)) := by
  have hG : stepG (mvB d) mode d t ⟨8, site, block, v⟩ = { t with outs := t.outs ++ [(2, 0)] } := by
    unfold stepG; rw [if_neg (by simp), if_neg (by simp), if_neg (by simp), if_pos (by simp)]; unfold atG manyG; rw [if_pos (by simpa using hb)]
  rw [hG]
  unfold stV
  simp only
  have hbx : BoxV (w.alloc (.cells #[.int .i64 8, .int .i64 site, .int .i64 block, .int .u8 (v : Int)] 35)) w.heap.size 35 [.int .i64 8, .int .i64 site, .int .i64 block, .int .u8 (v : Int)] := BoxV.new w _ _
  have hbA := hbx.alloc (.cells #[.int .i64 0, .int .u8 0] 37)
  have x0 := hbA.cell (j := 0) rfl; have x1 := hbA.cell (j := 1) rfl; have x2 := hbA.cell (j := 2) rfl
  have hA0 := (h.alloc (.cells #[.int .i64 8, .int .i64 site, .int .i64 block, .int .u8 (v : Int)] 35)).alloc (.cells #[.int .i64 0, .int .u8 0] 37)
  have om := hA0.out.cell (j := 2) rfl
  have HA := Lib.hid hA0
  have HC : Hid (Ch w ((w.alloc (.cells #[.int .i64 8, .int .i64 site, .int .i64 block, .int .u8 (v : Int)] 35)).alloc (.cells #[.int .i64 0, .int .u8 0] 37)) (RefF lb ob WV yV qV S0 S1)) := ((Ch.refl _ _).alloc _).alloc _
  have hrb : BoxV ((w.alloc (.cells #[.int .i64 8, .int .i64 site, .int .i64 block, .int .u8 (v : Int)] 35)).alloc (.cells #[.int .i64 0, .int .u8 0] 37)) (w.heap.size + 1) 37 [.int .i64 0, .int .u8 0] := by
    have := BoxV.new (w.alloc (.cells #[.int .i64 8, .int .i64 site, .int .i64 block, .int .u8 (v : Int)] 35)) [.int .i64 0, .int .u8 0] 37
    simpa using this
  have HRB := Lib.hid hrb
  clear h hG hbx hbA hA0 hrb
  by_cases c1 : site < t.main
  · clear hb
    go_enter Try.func17, Try.ntmps17
    go_wp2
    go_quiet (fail)
    go_wp2
    have hB0 := HRB.out.drewN nq
    have hB1 := hB0.set 0 (.int .i64 2)
    have hB2 := hB1.set 1 (.int .u8 0)
    have F0 := hB2.cell (j := 0) rfl; have F1 := hB2.cell (j := 1) rfl
    refine bodyPost_ret (v := .agg #[.int .i64 2, .int .u8 0]) (by simp [results, Try.f17, go_sem, F0, F1]) rfl ?_
    exact ⟨2, 0, WV, yV, qV, rfl, rfl, (((HA.out.drewN nq).setDone hB0 _).setDone hB1 _).outs _, ((HC.out.drewN nq).setNew (by omega) _).setNew (by omega) _⟩
  by_cases c2 : 1 < site
  · clear hb
    go_enter Try.func17, Try.ntmps17
    go_wp2
    go_quiet (fail)
    go_wp2
    have hB0 := HRB.out.drewN nq
    have hB1 := hB0.set 0 (.int .i64 2)
    have hB2 := hB1.set 1 (.int .u8 0)
    have F0 := hB2.cell (j := 0) rfl; have F1 := hB2.cell (j := 1) rfl
    refine bodyPost_ret (v := .agg #[.int .i64 2, .int .u8 0]) (by simp [results, Try.f17, go_sem, F0, F1]) rfl ?_
    exact ⟨2, 0, WV, yV, qV, rfl, rfl, (((HA.out.drewN nq).setDone hB0 _).setDone hB1 _).outs _, ((HC.out.drewN nq).setNew (by omega) _).setNew (by omega) _⟩
  by_cases c3 : block < 0
  · clear hb
    go_enter Try.func17, Try.ntmps17
    go_wp2
    go_quiet (fail)
    go_wp2
    have hB0 := HRB.out.drewN nq
    have hB1 := hB0.set 0 (.int .i64 2)
    have hB2 := hB1.set 1 (.int .u8 0)
    have F0 := hB2.cell (j := 0) rfl; have F1 := hB2.cell (j := 1) rfl
    refine bodyPost_ret (v := .agg #[.int .i64 2, .int .u8 0]) (by simp [results, Try.f17, go_sem, F0, F1]) rfl ?_
    exact ⟨2, 0, WV, yV, qV, rfl, rfl, (((HA.out.drewN nq).setDone hB0 _).setDone hB1 _).outs _, ((HC.out.drewN nq).setNew (by omega) _).setNew (by omega) _⟩
  · have c4 : (d : Int) ≤ block := by omega
    clear hb
    go_enter Try.func17, Try.ntmps17
    go_wp2
    go_quiet (fail)
    go_wp2
    have hB0 := HRB.out.drewN nq
    have hB1 := hB0.set 0 (.int .i64 2)
    have hB2 := hB1.set 1 (.int .u8 0)
    have F0 := hB2.cell (j := 0) rfl; have F1 := hB2.cell (j := 1) rfl
    refine bodyPost_ret (v := .agg #[.int .i64 2, .int .u8 0]) (by simp [results, Try.f17, go_sem, F0, F1]) rfl ?_
    exact ⟨2, 0, WV, yV, qV, rfl, rfl, (((HA.out.drewN nq).setDone hB0 _).setDone hB1 _).outs _, ((HC.out.drewN nq).setNew (by omega) _).setNew (by omega) _⟩
set_option maxRecDepth 100000 in
set_option maxHeartbeats 4000000 in
theorem paired_no9 (h : RefR w B lb sg ob DV WV yV qV mode S0 S1 t) (hb : site < t.main ∨ 1 < site ∨ block < 0 ∨ 24 ≤ block) :
    Calls Try.prog 17 #[.pointer (some ⟨lb, 0, none⟩), .slice (some ⟨sg, 0, none⟩) 2 2, .pointer (some ⟨ob, 0, none⟩), .int .i64 (d : Int), stV ⟨9, site, block, v⟩] w (RefP w B lb sg ob DV WV yV qV mode S0 S1 t (stepG (mvB d) mode d t ⟨9, site, block, v⟩)) := by
  have hG : stepG (mvB d) mode d t ⟨9, site, block, v⟩ = { t with outs := t.outs ++ [(2, 0)] } := by
    unfold stepG; rw [if_neg (by simp), if_neg (by simp), if_neg (by simp), if_pos (by simp)]; unfold atG manyG; rw [if_pos (by simpa using hb)]
  rw [hG]
  unfold stV
  simp only
  have hbx : BoxV (w.alloc (.cells #[.int .i64 9, .int .i64 site, .int .i64 block, .int .u8 (v : Int)] 35)) w.heap.size 35 [.int .i64 9, .int .i64 site, .int .i64 block, .int .u8 (v : Int)] := BoxV.new w _ _
  have hbA := hbx.alloc (.cells #[.int .i64 0, .int .u8 0] 37)
  have x0 := hbA.cell (j := 0) rfl; have x1 := hbA.cell (j := 1) rfl; have x2 := hbA.cell (j := 2) rfl
  have hA0 := (h.alloc (.cells #[.int .i64 9, .int .i64 site, .int .i64 block, .int .u8 (v : Int)] 35)).alloc (.cells #[.int .i64 0, .int .u8 0] 37)
  have om := hA0.out.cell (j := 2) rfl
  have HA := Lib.hid hA0
  have HC : Hid (Ch w ((w.alloc (.cells #[.int .i64 9, .int .i64 site, .int .i64 block, .int .u8 (v : Int)] 35)).alloc (.cells #[.int .i64 0, .int .u8 0] 37)) (RefF lb ob WV yV qV S0 S1)) := ((Ch.refl _ _).alloc _).alloc _
  have hrb : BoxV ((w.alloc (.cells #[.int .i64 9, .int .i64 site, .int .i64 block, .int .u8 (v : Int)] 35)).alloc (.cells #[.int .i64 0, .int .u8 0] 37)) (w.heap.size + 1) 37 [.int .i64 0, .int .u8 0] := by
    have := BoxV.new (w.alloc (.cells #[.int .i64 9, .int .i64 site, .int .i64 block, .int .u8 (v : Int)] 35)) [.int .i64 0, .int .u8 0] 37
    simpa using this
  have HRB := Lib.hid hrb
  clear h hG hbx hbA hA0 hrb
  by_cases c1 : site < t.main
  · clear hb
    go_enter Try.func17, Try.ntmps17
    go_wp2
    go_quiet (fail)
    go_wp2
    have hB0 := HRB.out.drewN nq
    have hB1 := hB0.set 0 (.int .i64 2)
    have hB2 := hB1.set 1 (.int .u8 0)
    have F0 := hB2.cell (j := 0) rfl; have F1 := hB2.cell (j := 1) rfl
    refine bodyPost_ret (v := .agg #[.int .i64 2, .int .u8 0]) (by simp [results, Try.f17, go_sem, F0, F1]) rfl ?_
    exact ⟨2, 0, WV, yV, qV, rfl, rfl, (((HA.out.drewN nq).setDone hB0 _).setDone hB1 _).outs _, ((HC.out.drewN nq).setNew (by omega) _).setNew (by omega) _⟩
  by_cases c2 : 1 < site
  · clear hb
    go_enter Try.func17, Try.ntmps17
    go_wp2
    go_quiet (fail)
    go_wp2
    have hB0 := HRB.out.drewN nq
    have hB1 := hB0.set 0 (.int .i64 2)
    have hB2 := hB1.set 1 (.int .u8 0)
    have F0 := hB2.cell (j := 0) rfl; have F1 := hB2.cell (j := 1) rfl
    refine bodyPost_ret (v := .agg #[.int .i64 2, .int .u8 0]) (by simp [results, Try.f17, go_sem, F0, F1]) rfl ?_
    exact ⟨2, 0, WV, yV, qV, rfl, rfl, (((HA.out.drewN nq).setDone hB0 _).setDone hB1 _).outs _, ((HC.out.drewN nq).setNew (by omega) _).setNew (by omega) _⟩
  by_cases c3 : block < 0
  · clear hb
    go_enter Try.func17, Try.ntmps17
    go_wp2
    go_quiet (fail)
    go_wp2
    have hB0 := HRB.out.drewN nq
    have hB1 := hB0.set 0 (.int .i64 2)
    have hB2 := hB1.set 1 (.int .u8 0)
    have F0 := hB2.cell (j := 0) rfl; have F1 := hB2.cell (j := 1) rfl
    refine bodyPost_ret (v := .agg #[.int .i64 2, .int .u8 0]) (by simp [results, Try.f17, go_sem, F0, F1]) rfl ?_
    exact ⟨2, 0, WV, yV, qV, rfl, rfl, (((HA.out.drewN nq).setDone hB0 _).setDone hB1 _).outs _, ((HC.out.drewN nq).setNew (by omega) _).setNew (by omega) _⟩
  · have c4 : 24 ≤ block := by omega
    clear hb
    go_enter Try.func17, Try.ntmps17
    go_wp2
    go_quiet (fail)
    go_wp2
    have hB0 := HRB.out.drewN nq
    have hB1 := hB0.set 0 (.int .i64 2)
    have hB2 := hB1.set 1 (.int .u8 0)
    have F0 := hB2.cell (j := 0) rfl; have F1 := hB2.cell (j := 1) rfl
    refine bodyPost_ret (v := .agg #[.int .i64 2, .int .u8 0]) (by simp [results, Try.f17, go_sem, F0, F1]) rfl ?_
    exact ⟨2, 0, WV, yV, qV, rfl, rfl, (((HA.out.drewN nq).setDone hB0 _).setDone hB1 _).outs _, ((HC.out.drewN nq).setNew (by omega) _).setNew (by omega) _⟩
end
end Go.Proofs.Ytbhhijdpmpcdnaa

/-
  quipuref.paired: at a site, done.
-/
import Derived.Test.YtbhhijdpmpcdnaaPrb
import Derived.Test.YtbhhijdpmpcdnaaPtr
set_option linter.unusedVariables false
namespace Go.Proofs.Ytbhhijdpmpcdnaa
open Go.RowKit

theorem ArrP.ch {w w' : World} {base ab g v e : Nat} {bl : List Nat} {z : Int} {en : Ending} (h : ArrP w base ab g v e bl z en w') : Ch w w' (fun b => b = ab ∨ b = g) :=
  ⟨h.2.2.1, h.2.2.2.1, h.2.2.2.2.1, Nat.le_of_eq h.2.2.2.2.2.1.symm, fun b _ hn => h.2.2.2.2.2.2 b (fun e => hn (.inl e)) (fun e => hn (.inr e))⟩
theorem ref_moveB (d b base ab g : Nat) (kind : Int) (a : List Nat × Int) (w : World) (h : ArrB w base ab g a.1 a.2) (k7 : 7 ≤ kind) (k9 : kind ≤ 9) (hb : (b : Int) < manyG d kind) (hb24 : kind = 9 → b < 24) :
    Calls Try.prog 25 #[.pointer (some ⟨ab, 0, none⟩), .int .i64 (atK kind), .int .i64 (b : Int), .int .u8 0] w (ArrP w base ab g (mvB d a (atK kind) (b : Int) 0).v (mvB d a (atK kind) (b : Int) 0).e (mvB d a (atK kind) (b : Int) 0).a.1 (mvB d a (atK kind) (b : Int) 0).a.2) := by
  rcases (by omega : kind = 7 ∨ kind = 8 ∨ kind = 9) with rfl | rfl | rfl
  · have hd : b < d := by simp [manyG] at hb; omega
    have hm : mvB d a (atK 7) (b : Int) 0 = if 0 ≤ a.2 then ⟨(a.1, a.2), 7, 0⟩ else ⟨(a.1, (b : Int)), 0, 0⟩ := by
      unfold mvB mvR atK
      rw [if_pos rfl, if_neg (by omega), if_neg (by simp; omega), if_neg (by decide), if_pos rfl]
      by_cases hz : 0 ≤ a.2
      · rw [if_pos hz, if_pos hz]
      · rw [if_neg hz, if_neg hz]
    have c := ref_move3 base ab g a.1 a.2 w h b 0
    rw [hm]
    by_cases hz : 0 ≤ a.2
    · simp only [if_pos hz] at c ⊢; exact c
    · simp only [if_neg hz] at c ⊢; exact c
  · have hd : b < d := by simp [manyG] at hb; omega
    have hm : mvB d a (atK 8) (b : Int) 0 = if (b : Int) = a.2 then ⟨(a.1, -1), 0, 0⟩ else ⟨(a.1, a.2), 7, 0⟩ := by
      rw [show atK 8 = 4 by decide]
      unfold mvB mvR
      rw [if_neg (by omega), if_neg (by simp; omega), if_neg (by decide), if_neg (by decide), if_pos rfl]
      by_cases hz : (b : Int) = a.2
      · rw [if_pos hz, if_pos hz]
      · rw [if_neg hz, if_neg hz]
    have c := ref_move4 base ab g a.1 a.2 w h b 0
    rw [hm]
    by_cases hz : (b : Int) = a.2
    · simp only [if_pos hz] at c ⊢; exact c
    · simp only [if_neg hz] at c ⊢; exact c
  · have hd := hb24 rfl
    have hm : mvB d a (atK 9) (b : Int) 0 = ⟨(a.1, a.2), 0, a.1.getD b 0⟩ := by
      rw [show atK 9 = 2 by decide]
      unfold mvB mvR
      rw [if_neg (by omega), if_neg (by simp; omega), if_pos rfl, Int.toNat_natCast]
    rw [hm]
    exact ref_move2 base ab g a.1 a.2 w h b 0 hd
section
variable {w w' : World} {B lb sg ob mode : Nat} {DV WV yV qV : Value} {S0 S1 : Ab} {t : PrT (List Nat × Int)}
theorem RefR.apart (h : RefR w B lb sg ob DV WV yV qV mode S0 S1 t) : S0.a ≠ S1.g ∧ S1.a ≠ S0.g := by
  obtain ⟨c0, e0⟩ := h.a0.gTy
  obtain ⟨c1, e1⟩ := h.a1.gTy
  exact ⟨ty_ne h.a0.box e1 (by decide), ty_ne h.a1.box e0 (by decide)⟩
theorem RefR.ch0 (h : RefR w B lb sg ob DV WV yV qV mode S0 S1 t) {a : List Nat × Int} (ha : ArrB w' B S0.a S0.g a.1 a.2) (hc : Ch w w' (fun b => b = S0.a ∨ b = S0.g)) (hl : a.1.length = 24) : RefR w' B lb sg ob DV WV yV qV mode S0 S1 { t with a0 := a } := by
  obtain ⟨c0, e0⟩ := h.a0.gTy
  have hn : ∀ b cur E m, w.heap[b]? = some (.cells cur E m) → E ≠ 58 → E ≠ 5 → ¬ (b = S0.a ∨ b = S0.g) := fun b cur E m hb h1 h2 hf => by
    rcases hf with hf | hf
    · exact ty_ne hb h.a0.box h1 hf
    · exact ty_ne hb e0 h2 hf
  obtain ⟨p, hp, hl2⟩ := h.line
  obtain ⟨n1, n2⟩ := h.apart
  exact ⟨⟨p, hp, hl2.ch hc (hn _ _ _ _ hl2.box (by decide) (by decide)) (fun b hb => by obtain ⟨c, e⟩ := hl2.way.ty hb; exact hn _ _ _ _ e (by decide) (by decide)) (fun b hb => by obtain ⟨c, e⟩ := hl2.waits.ty hb; exact hn _ _ _ _ e (by decide) (by decide))⟩,
    h.wri.ch hc (fun b hb => by obtain ⟨c, e⟩ := h.wri.ty hb; exact hn _ _ _ _ e (by decide) (by decide)), ha,
    h.a1.ch hc (fun e => by rcases e with e | e; exact h.ne.1 e.symm; exact n2 e) (fun e => by rcases e with e | e; exact n1 e.symm; exact h.ne.2 e.symm),
    h.sit.ch hc (hn _ _ _ _ h.sit (by decide) (by decide)), h.out.ch hc (hn _ _ _ _ h.out (by decide) (by decide)), h.ne, h.low, hl, h.l1⟩
theorem RefR.ch1 (h : RefR w B lb sg ob DV WV yV qV mode S0 S1 t) {a : List Nat × Int} (ha : ArrB w' B S1.a S1.g a.1 a.2) (hc : Ch w w' (fun b => b = S1.a ∨ b = S1.g)) (hl : a.1.length = 24) : RefR w' B lb sg ob DV WV yV qV mode S0 S1 { t with a1 := a } := by
  obtain ⟨c0, e0⟩ := h.a1.gTy
  have hn : ∀ b cur E m, w.heap[b]? = some (.cells cur E m) → E ≠ 58 → E ≠ 5 → ¬ (b = S1.a ∨ b = S1.g) := fun b cur E m hb h1 h2 hf => by
    rcases hf with hf | hf
    · exact ty_ne hb h.a1.box h1 hf
    · exact ty_ne hb e0 h2 hf
  obtain ⟨p, hp, hl2⟩ := h.line
  obtain ⟨n1, n2⟩ := h.apart
  exact ⟨⟨p, hp, hl2.ch hc (hn _ _ _ _ hl2.box (by decide) (by decide)) (fun b hb => by obtain ⟨c, e⟩ := hl2.way.ty hb; exact hn _ _ _ _ e (by decide) (by decide)) (fun b hb => by obtain ⟨c, e⟩ := hl2.waits.ty hb; exact hn _ _ _ _ e (by decide) (by decide))⟩,
    h.wri.ch hc (fun b hb => by obtain ⟨c, e⟩ := h.wri.ty hb; exact hn _ _ _ _ e (by decide) (by decide)),
    h.a0.ch hc (fun e => by rcases e with e | e; exact h.ne.1 e; exact n1 e) (fun e => by rcases e with e | e; exact n2 e.symm; exact h.ne.2 e), ha,
    h.sit.ch hc (hn _ _ _ _ h.sit (by decide) (by decide)), h.out.ch hc (hn _ _ _ _ h.out (by decide) (by decide)), h.ne, h.low, h.l0, hl⟩
end
section
variable (B lb sg ob mode d : Nat) (DV WV yV qV : Value) (S0 S1 : Ab) (t : PrT (List Nat × Int)) (b v : Nat) (w : World)
set_option maxRecDepth 100000 in
set_option maxHeartbeats 4000000 in
theorem paired_at7_0 (h : RefR w B lb sg ob DV WV yV qV mode S0 S1 t) (hb : b < d) (hm : t.main ≤ 0) :
    Calls Try.prog 17 #[.pointer (some ⟨lb, 0, none⟩), .slice (some ⟨sg, 0, none⟩) 2 2, .pointer (some ⟨ob, 0, none⟩), .int .i64 (d : Int), stV ⟨7, 0, (b : Int), v⟩] w (RefP w B lb sg ob DV WV yV qV mode S0 S1 t (stepG (mvB d) mode d t ⟨7, 0, (b : Int), v⟩)) := by
  obtain ⟨r, hr⟩ : ∃ r, mvB d t.a0 (atK 7) (b : Int) 0 = r := ⟨_, rfl⟩
  have hG : stepG (mvB d) mode d t ⟨7, 0, (b : Int), v⟩ = { t with outs := t.outs ++ [(r.e, r.v)], a0 := r.a } := by
    unfold stepG; rw [if_neg (by simp), if_neg (by simp), if_neg (by simp), if_pos (by simp)]; unfold atG manyG; rw [if_neg (by simp; omega), if_pos (by simp)]; simp only [hr]
  rw [hG]
  unfold stV
  simp only
  have hbx : BoxV (w.alloc (.cells #[.int .i64 7, .int .i64 0, .int .i64 (b : Int), .int .u8 (v : Int)] 35)) w.heap.size 35 [.int .i64 7, .int .i64 0, .int .i64 (b : Int), .int .u8 (v : Int)] := BoxV.new w _ _
  have hbA := hbx.alloc (.cells #[.int .i64 0, .int .u8 0] 37)
  have x0 := hbA.cell (j := 0) rfl; have x1 := hbA.cell (j := 1) rfl; have x2 := hbA.cell (j := 2) rfl
  have hA0 := (h.alloc (.cells #[.int .i64 7, .int .i64 0, .int .i64 (b : Int), .int .u8 (v : Int)] 35)).alloc (.cells #[.int .i64 0, .int .u8 0] 37)
  have om := hA0.out.cell (j := 2) rfl
  have sj := hA0.sit.cell (j := 0) rfl
  have hrb : BoxV ((w.alloc (.cells #[.int .i64 7, .int .i64 0, .int .i64 (b : Int), .int .u8 (v : Int)] 35)).alloc (.cells #[.int .i64 0, .int .u8 0] 37)) (w.heap.size + 1) 37 [.int .i64 0, .int .u8 0] := by
    have := BoxV.new (w.alloc (.cells #[.int .i64 7, .int .i64 0, .int .i64 (b : Int), .int .u8 (v : Int)] 35)) [.int .i64 0, .int .u8 0] 37
    simpa using this
  have hC : Ch w ((w.alloc (.cells #[.int .i64 7, .int .i64 0, .int .i64 (b : Int), .int .u8 (v : Int)] 35)).alloc (.cells #[.int .i64 0, .int .u8 0] 37)) (RefF lb ob WV yV qV S0 S1) := ((Ch.refl _ _).alloc _).alloc _
  have hbl : r.a.1.length = 24 := by rw [← hr, mvB_bl d t.a0 _ _ _ (by decide)]; exact h.l0
  have i1 : ¬ (0 : Int) < (t.main : Int) := by omega
  have i2 : ¬ (b : Int) < 0 := by omega
  have i3 : ¬ (d : Int) ≤ (b : Int) := by omega
  have HA := Lib.hid hA0
  have HC := Lib.hid hC
  have HRB := Lib.hid hrb
  have HR := Lib.hid hr
  have HX := Lib.hid hbA
  clear h hG hbx hbA hA0 hrb hC hr
  go_enter Try.func17, Try.ntmps17
  go_wp2
  go_quiet (fail)
  go_wp2
  obtain ⟨W, hW⟩ : ∃ x, x = ((w.alloc (.cells #[.int .i64 7, .int .i64 0, .int .i64 (b : Int), .int .u8 (v : Int)] 35)).alloc (.cells #[.int .i64 0, .int .u8 0] 37)).drewN nq := ⟨_, rfl⟩
  have hWA : RefR W B lb sg ob DV WV yV qV mode S0 S1 t := by rw [hW]; exact HA.out.drewN nq
  have hWC : Ch w W (RefF lb ob WV yV qV S0 S1) := by rw [hW]; exact HC.out.drewN nq
  have hWB : BoxV W (w.heap.size + 1) 37 [.int .i64 0, .int .u8 0] := by rw [hW]; exact HRB.out.drewN nq
  have hWX : BoxV W w.heap.size 35 [.int .i64 7, .int .i64 0, .int .i64 (b : Int), .int .u8 (v : Int)] := by rw [hW]; exact HX.out.drewN nq
  rw [← hW]
  clear hW x0 x1 x2 om sj
  have y0 := hWX.cell (j := 0) rfl; have y1 := hWX.cell (j := 1) rfl; have y2 := hWX.cell (j := 2) rfl
  have sk := hWA.sit.cell (j := 0) rfl
  have cm := ref_moveB d b B S0.a S0.g 7 t.a0 W.drew ⟨hWA.a0.box, hWA.a0.row.drew, hWA.a0.ne⟩ (by decide) (by decide) (by unfold manyG; simp; omega) (by intro _; omega)
  rw [HR.out, show atK 7 = 3 by decide] at cm
  have HWA := Lib.hid hWA; have HWC := Lib.hid hWC; have HWB := Lib.hid hWB
  clear hWA hWC hWB hWX
  go_region_law (go_simp; go_at_call 25; refine cm.mono ?_; rintro e w2 hap; have hch := hap.ch; obtain ⟨rfl, ha2, _⟩ := hap)
  all_goals
    have hwd : RefR W.drew B lb sg ob DV WV yV qV mode S0 S1 t := HWA.out.below ((Below.refl _ _).drew)
    have hp2 := hwd.ch0 (a := r.a) ha2 hch hbl
    have hb2 : BoxV w2 (w.heap.size + 1) 37 [.int .i64 0, .int .u8 0] := BoxV.ch (w := W.drew) HWB.out hch (fun hf => by
      rcases hf with e | e
      · exact ty_ne HWB.out HWA.out.a0.box (by decide) e
      · obtain ⟨c, ec⟩ := HWA.out.a0.gTy; exact ty_ne HWB.out ec (by decide) e)
    have r0 := hb2.cell (j := 0) rfl; have r1 := hb2.cell (j := 1) rfl; have r2 := hb2.free 0; have r3 := hb2.free 1
    have HP2 := Lib.hid hp2; have HB2 := Lib.hid hb2
    have HCH : Hid (Ch w w2 (RefF lb ob WV yV qV S0 S1)) := (HWC.out.drew).trans hch (fun q _ e => by rcases e with e | e; exact .inr (.inr (.inl e)); exact .inr (.inr (.inr (.inl e))))
    clear hch ha2 hwd hp2 hb2 y0 y1 y2 sk cm
    go_wp2_with fail
    have hB1 := HB2.out.set 0 (.int .i64 (r.e : Int))
    have hB2 := hB1.set 1 (.int .u8 (r.v : Int))
    have F0 := hB2.cell (j := 0) rfl; have F1 := hB2.cell (j := 1) rfl
    refine bodyPost_ret (v := .agg #[.int .i64 (r.e : Int), .int .u8 (r.v : Int)]) (by simp [results, Try.f17, go_sem, F0, F1]) rfl ?_
    exact ⟨r.e, r.v, WV, yV, qV, rfl, rfl, ((HP2.out.setDone HB2.out _).setDone hB1 _).outs _, (HCH.out.setNew (by omega) _).setNew (by omega) _⟩
set_option maxRecDepth 100000 in
set_option maxHeartbeats 4000000 in
theorem paired_at7_1 (h : RefR w B lb sg ob DV WV yV qV mode S0 S1 t) (hb : b < d) (hm : t.main ≤ 1) :
    Calls Try.prog 17 #[.pointer (some ⟨lb, 0, none⟩), .slice (some ⟨sg, 0, none⟩) 2 2, .pointer (some ⟨ob, 0, none⟩), .int .i64 (d : Int), stV ⟨7, 1, (b : Int), v⟩] w (RefP w B lb sg ob DV WV yV qV mode S0 S1 t (stepG (mvB d) mode d t ⟨7, 1, (b : Int), v⟩)) := by
  obtain ⟨r, hr⟩ : ∃ r, mvB d t.a1 (atK 7) (b : Int) 0 = r := ⟨_, rfl⟩
  have hG : stepG (mvB d) mode d t ⟨7, 1, (b : Int), v⟩ = { t with outs := t.outs ++ [(r.e, r.v)], a1 := r.a } := by
    unfold stepG; rw [if_neg (by simp), if_neg (by simp), if_neg (by simp), if_pos (by simp)]; unfold atG manyG; rw [if_neg (by simp; omega), if_neg (by simp)]; simp only [hr]
  rw [hG]
  unfold stV
  simp only
  have hbx : BoxV (w.alloc (.cells #[.int .i64 7, .int .i64 1, .int .i64 (b : Int), .int .u8 (v : Int)] 35)) w.heap.size 35 [.int .i64 7, .int .i64 1, .int .i64 (b : Int), .int .u8 (v : Int)] := BoxV.new w _ _
  have hbA := hbx.alloc (.cells #[.int .i64 0, .int .u8 0] 37)
  have x0 := hbA.cell (j := 0) rfl; have x1 := hbA.cell (j := 1) rfl; have x2 := hbA.cell (j := 2) rfl
  have hA0 := (h.alloc (.cells #[.int .i64 7, .int .i64 1, .int .i64 (b : Int), .int .u8 (v : Int)] 35)).alloc (.cells #[.int .i64 0, .int .u8 0] 37)
  have om := hA0.out.cell (j := 2) rfl
  have sj := hA0.sit.cell (j := 1) rfl
  have hrb : BoxV ((w.alloc (.cells #[.int .i64 7, .int .i64 1, .int .i64 (b : Int), .int .u8 (v : Int)] 35)).alloc (.cells #[.int .i64 0, .int .u8 0] 37)) (w.heap.size + 1) 37 [.int .i64 0, .int .u8 0] := by
    have := BoxV.new (w.alloc (.cells #[.int .i64 7, .int .i64 1, .int .i64 (b : Int), .int .u8 (v : Int)] 35)) [.int .i64 0, .int .u8 0] 37
    simpa using this
  have hC : Ch w ((w.alloc (.cells #[.int .i64 7, .int .i64 1, .int .i64 (b : Int), .int .u8 (v : Int)] 35)).alloc (.cells #[.int .i64 0, .int .u8 0] 37)) (RefF lb ob WV yV qV S0 S1) := ((Ch.refl _ _).alloc _).alloc _
  have hbl : r.a.1.length = 24 := by rw [← hr, mvB_bl d t.a1 _ _ _ (by decide)]; exact h.l1
  have i1 : ¬ (1 : Int) < (t.main : Int) := by omega
  have i2 : ¬ (b : Int) < 0 := by omega
  have i3 : ¬ (d : Int) ≤ (b : Int) := by omega
  have HA := Lib.hid hA0
  have HC := Lib.hid hC
  have HRB := Lib.hid hrb
  have HR := Lib.hid hr
  have HX := Lib.hid hbA
  clear h hG hbx hbA hA0 hrb hC hr
  go_enter Try.func17, Try.ntmps17
  go_wp2
  go_quiet (fail)
  go_wp2
  obtain ⟨W, hW⟩ : ∃ x, x = ((w.alloc (.cells #[.int .i64 7, .int .i64 1, .int .i64 (b : Int), .int .u8 (v : Int)] 35)).alloc (.cells #[.int .i64 0, .int .u8 0] 37)).drewN nq := ⟨_, rfl⟩
  have hWA : RefR W B lb sg ob DV WV yV qV mode S0 S1 t := by rw [hW]; exact HA.out.drewN nq
  have hWC : Ch w W (RefF lb ob WV yV qV S0 S1) := by rw [hW]; exact HC.out.drewN nq
  have hWB : BoxV W (w.heap.size + 1) 37 [.int .i64 0, .int .u8 0] := by rw [hW]; exact HRB.out.drewN nq
  have hWX : BoxV W w.heap.size 35 [.int .i64 7, .int .i64 1, .int .i64 (b : Int), .int .u8 (v : Int)] := by rw [hW]; exact HX.out.drewN nq
  rw [← hW]
  clear hW x0 x1 x2 om sj
  have y0 := hWX.cell (j := 0) rfl; have y1 := hWX.cell (j := 1) rfl; have y2 := hWX.cell (j := 2) rfl
  have sk := hWA.sit.cell (j := 1) rfl
  have cm := ref_moveB d b B S1.a S1.g 7 t.a1 W.drew ⟨hWA.a1.box, hWA.a1.row.drew, hWA.a1.ne⟩ (by decide) (by decide) (by unfold manyG; simp; omega) (by intro _; omega)
  rw [HR.out, show atK 7 = 3 by decide] at cm
  have HWA := Lib.hid hWA; have HWC := Lib.hid hWC; have HWB := Lib.hid hWB
  clear hWA hWC hWB hWX
  go_region_law (go_simp; go_at_call 25; refine cm.mono ?_; rintro e w2 hap; have hch := hap.ch; obtain ⟨rfl, ha2, _⟩ := hap)
  all_goals
    have hwd : RefR W.drew B lb sg ob DV WV yV qV mode S0 S1 t := HWA.out.below ((Below.refl _ _).drew)
    have hp2 := hwd.ch1 (a := r.a) ha2 hch hbl
    have hb2 : BoxV w2 (w.heap.size + 1) 37 [.int .i64 0, .int .u8 0] := BoxV.ch (w := W.drew) HWB.out hch (fun hf => by
      rcases hf with e | e
      · exact ty_ne HWB.out HWA.out.a1.box (by decide) e
      · obtain ⟨c, ec⟩ := HWA.out.a1.gTy; exact ty_ne HWB.out ec (by decide) e)
    have r0 := hb2.cell (j := 0) rfl; have r1 := hb2.cell (j := 1) rfl; have r2 := hb2.free 0; have r3 := hb2.free 1
    have HP2 := Lib.hid hp2; have HB2 := Lib.hid hb2
    have HCH : Hid (Ch w w2 (RefF lb ob WV yV qV S0 S1)) := (HWC.out.drew).trans hch (fun q _ e => by rcases e with e | e; exact .inr (.inr (.inr (.inr (.inl e)))); exact .inr (.inr (.inr (.inr (.inr (.inl e))))))
    clear hch ha2 hwd hp2 hb2 y0 y1 y2 sk cm
    go_wp2_with fail
    have hB1 := HB2.out.set 0 (.int .i64 (r.e : Int))
    have hB2 := hB1.set 1 (.int .u8 (r.v : Int))
    have F0 := hB2.cell (j := 0) rfl; have F1 := hB2.cell (j := 1) rfl
    refine bodyPost_ret (v := .agg #[.int .i64 (r.e : Int), .int .u8 (r.v : Int)]) (by simp [results, Try.f17, go_sem, F0, F1]) rfl ?_
    exact ⟨r.e, r.v, WV, yV, qV, rfl, rfl, ((HP2.out.setDone HB2.out _).setDone hB1 _).outs _, (HCH.out.setNew (by omega) _).setNew (by omega) _⟩
set_option maxRecDepth 100000 in
set_option maxHeartbeats 4000000 in
theorem paired_at8_0 (h : RefR w B lb sg ob DV WV yV qV mode S0 S1 t) (hb : b < d) (hm : t.main ≤ 0) :
    Calls Try.prog 17 #[.pointer (some ⟨lb, 0, none⟩), .slice (some ⟨sg, 0, none⟩) 2 2, .pointer (some ⟨ob, 0, none⟩), .int .i64 (d : Int), stV ⟨8, 0, (b : Int), v⟩] w (RefP w B lb sg ob DV WV yV qV mode S0 S1 t (stepG (mvB d) mode d t ⟨8, 0, (b : Int), v⟩)) := by
  obtain ⟨r, hr⟩ : ∃ r, mvB d t.a0 (atK 8) (b : Int) 0 = r := ⟨_, rfl⟩
  have hG : stepG (mvB d) mode d t ⟨8, 0, (b : Int), v⟩ = { t with outs := t.outs ++ [(r.e, r.v)], a0 := r.a } := by
    unfold stepG; rw [if_neg (by simp), if_neg (by simp), if_neg (by simp), if_pos (by simp)]; unfold atG manyG; rw [if_neg (by simp; omega), if_pos (by simp)]; simp only [hr]
  rw [hG]
  unfold stV
  simp only
  have hbx : BoxV (w.alloc (.cells #[.int .i64 8, .int .i64 0, .int .i64 (b : Int), .int .u8 (v : Int)] 35)) w.heap.size 35 [.int .i64 8, .int .i64 0, .int .i64 (b : Int), .int .u8 (v : Int)] := BoxV.new w _ _
  have hbA := hbx.alloc (.cells #[.int .i64 0, .int .u8 0] 37)
  have x0 := hbA.cell (j := 0) rfl; have x1 := hbA.cell (j := 1) rfl; have x2 := hbA.cell (j := 2) rfl
  have hA0 := (h.alloc (.cells #[.int .i64 8, .int .i64 0, .int .i64 (b : Int), .int .u8 (v : Int)] 35)).alloc (.cells #[.int .i64 0, .int .u8 0] 37)
  have om := hA0.out.cell (j := 2) rfl
  have sj := hA0.sit.cell (j := 0) rfl
  have hrb : BoxV ((w.alloc (.cells #[.int .i64 8, .int .i64 0, .int .i64 (b : Int), .int .u8 (v : Int)] 35)).alloc (.cells #[.int .i64 0, .int .u8 0] 37)) (w.heap.size + 1) 37 [.int .i64 0, .int .u8 0] := by
    have := BoxV.new (w.alloc (.cells #[.int .i64 8, .int .i64 0, .int .i64 (b : Int), .int .u8 (v : Int)] 35)) [.int .i64 0, .int .u8 0] 37
    simpa using this
  have hC : Ch w ((w.alloc (.cells #[.int .i64 8, .int .i64 0, .int .i64 (b : Int), .int .u8 (v : Int)] 35)).alloc (.cells #[.int .i64 0, .int .u8 0] 37)) (RefF lb ob WV yV qV S0 S1) := ((Ch.refl _ _).alloc _).alloc _
  have hbl : r.a.1.length = 24 := by rw [← hr, mvB_bl d t.a0 _ _ _ (by decide)]; exact h.l0
  have i1 : ¬ (0 : Int) < (t.main : Int) := by omega
  have i2 : ¬ (b : Int) < 0 := by omega
  have i3 : ¬ (d : Int) ≤ (b : Int) := by omega
  have HA := Lib.hid hA0
  have HC := Lib.hid hC
  have HRB := Lib.hid hrb
  have HR := Lib.hid hr
  have HX := Lib.hid hbA
  clear h hG hbx hbA hA0 hrb hC hr
  go_enter Try.func17, Try.ntmps17
  go_wp2
  go_quiet (fail)
  go_wp2
  obtain ⟨W, hW⟩ : ∃ x, x = ((w.alloc (.cells #[.int .i64 8, .int .i64 0, .int .i64 (b : Int), .int .u8 (v : Int)] 35)).alloc (.cells #[.int .i64 0, .int .u8 0] 37)).drewN nq := ⟨_, rfl⟩
  have hWA : RefR W B lb sg ob DV WV yV qV mode S0 S1 t := by rw [hW]; exact HA.out.drewN nq
  have hWC : Ch w W (RefF lb ob WV yV qV S0 S1) := by rw [hW]; exact HC.out.drewN nq
  have hWB : BoxV W (w.heap.size + 1) 37 [.int .i64 0, .int .u8 0] := by rw [hW]; exact HRB.out.drewN nq
  have hWX : BoxV W w.heap.size 35 [.int .i64 8, .int .i64 0, .int .i64 (b : Int), .int .u8 (v : Int)] := by rw [hW]; exact HX.out.drewN nq
  rw [← hW]
  clear hW x0 x1 x2 om sj
  have y0 := hWX.cell (j := 0) rfl; have y1 := hWX.cell (j := 1) rfl; have y2 := hWX.cell (j := 2) rfl
  have sk := hWA.sit.cell (j := 0) rfl
  have cm := ref_moveB d b B S0.a S0.g 8 t.a0 W.drew ⟨hWA.a0.box, hWA.a0.row.drew, hWA.a0.ne⟩ (by decide) (by decide) (by unfold manyG; simp; omega) (by intro _; omega)
  rw [HR.out, show atK 8 = 4 by decide] at cm
  have HWA := Lib.hid hWA; have HWC := Lib.hid hWC; have HWB := Lib.hid hWB
  clear hWA hWC hWB hWX
  go_region_law (go_simp; go_at_call 25; refine cm.mono ?_; rintro e w2 hap; have hch := hap.ch; obtain ⟨rfl, ha2, _⟩ := hap)
  all_goals
    have hwd : RefR W.drew B lb sg ob DV WV yV qV mode S0 S1 t := HWA.out.below ((Below.refl _ _).drew)
    have hp2 := hwd.ch0 (a := r.a) ha2 hch hbl
    have hb2 : BoxV w2 (w.heap.size + 1) 37 [.int .i64 0, .int .u8 0] := BoxV.ch (w := W.drew) HWB.out hch (fun hf => by
      rcases hf with e | e
      · exact ty_ne HWB.out HWA.out.a0.box (by decide) e
      · obtain ⟨c, ec⟩ := HWA.out.a0.gTy; exact ty_ne HWB.out ec (by decide) e)
    have r0 := hb2.cell (j := 0) rfl; have r1 := hb2.cell (j := 1) rfl; have r2 := hb2.free 0; have r3 := hb2.free 1
    have HP2 := Lib.hid hp2; have HB2 := Lib.hid hb2
    have HCH : Hid (Ch w w2 (RefF lb ob WV yV qV S0 S1)) := (HWC.out.drew).trans hch (fun q _ e => by rcases e with e | e; exact .inr (.inr (.inl e)); exact .inr (.inr (.inr (.inl e))))
    clear hch ha2 hwd hp2 hb2 y0 y1 y2 sk cm
    go_wp2_with fail
    have hB1 := HB2.out.set 0 (.int .i64 (r.e : Int))
    have hB2 := hB1.set 1 (.int .u8 (r.v : Int))
    have F0 := hB2.cell (j := 0) rfl; have F1 := hB2.cell (j := 1) rfl
    refine bodyPost_ret (v := .agg #[.int .i64 (r.e : Int), .int .u8 (r.v : Int)]) (by simp [results, Try.f17, go_sem, F0, F1]) rfl ?_
    exact ⟨r.e, r.v, WV, yV, qV, rfl, rfl, ((HP2.out.setDone HB2.out _).setDone hB1 _).outs _, (HCH.out.setNew (by omega) _).setNew (by omega) _⟩
set_option maxRecDepth 100000 in
set_option maxHeartbeats 4000000 in
theorem paired_at8_1 (h : RefR w B lb sg ob DV WV yV qV mode S0 S1 t) (hb : b < d) (hm : t.main ≤ 1) :
    Calls Try.prog 17 #[.pointer (some ⟨lb, 0, none⟩), .slice (some ⟨sg, 0, none⟩) 2 2, .pointer (some ⟨ob, 0, none⟩), .int .i64 (d : Int), stV ⟨8, 1, (b : Int), v⟩] w (RefP w B lb sg ob DV WV yV qV mode S0 S1 t (stepG (mvB d) mode d t ⟨8, 1, (b : Int), v⟩)) := by
  obtain ⟨r, hr⟩ : ∃ r, mvB d t.a1 (atK 8) (b : Int) 0 = r := ⟨_, rfl⟩
  have hG : stepG (mvB d) mode d t ⟨8, 1, (b : Int), v⟩ = { t with outs := t.outs ++ [(r.e, r.v)], a1 := r.a } := by
    unfold stepG; rw [if_neg (by simp), if_neg (by simp), if_neg (by simp), if_pos (by simp)]; unfold atG manyG; rw [if_neg (by simp; omega), if_neg (by simp)]; simp only [hr]
  rw [hG]
  unfold stV
  simp only
  have hbx : BoxV (w.alloc (.cells #[.int .i64 8, .int .i64 1, .int .i64 (b : Int), .int .u8 (v : Int)] 35)) w.heap.size 35 [.int .i64 8, .int .i64 1, .int .i64 (b : Int), .int .u8 (v : Int)] := BoxV.new w _ _
  have hbA := hbx.alloc (.cells #[.int .i64 0, .int .u8 0] 37)
  have x0 := hbA.cell (j := 0) rfl; have x1 := hbA.cell (j := 1) rfl; have x2 := hbA.cell (j := 2) rfl
  have hA0 := (h.alloc (.cells #[.int .i64 8, .int .i64 1, .int .i64 (b : Int), .int .u8 (v : Int)] 35)).alloc (.cells #[.int .i64 0, .int .u8 0] 37)
  have om := hA0.out.cell (j := 2) rfl
  have sj := hA0.sit.cell (j := 1) rfl
  have hrb : BoxV ((w.alloc (.cells #[.int .i64 8, .int .i64 1, .int .i64 (b : Int), .int .u8 (v : Int)] 35)).alloc (.cells #[.int .i64 0, .int .u8 0] 37)) (w.heap.size + 1) 37 [.int .i64 0, .int .u8 0] := by
    have := BoxV.new (w.alloc (.cells #[.int .i64 8, .int .i64 1, .int .i64 (b : Int), .int .u8 (v : Int)] 35)) [.int .i64 0, .int .u8 0] 37
    simpa using this
  have hC : Ch w ((w.alloc (.cells #[.int .i64 8, .int .i64 1, .int .i64 (b : Int), .int .u8 (v : Int)] 35)).alloc (.cells #[.int .i64 0, .int .u8 0] 37)) (RefF lb ob WV yV qV S0 S1) := ((Ch.refl _ _).alloc _).alloc _
  have hbl : r.a.1.length = 24 := by rw [← hr, mvB_bl d t.a1 _ _ _ (by decide)]; exact h.l1
  have i1 : ¬ (1 : Int) < (t.main : Int) := by omega
  have i2 : ¬ (b : Int) < 0 := by omega
  have i3 : ¬ (d : Int) ≤ (b : Int) := by omega
  have HA := Lib.hid hA0
  have HC := Lib.hid hC
  have HRB := Lib.hid hrb
  have HR := Lib.hid hr
  have HX := Lib.hid hbA
  clear h hG hbx hbA hA0 hrb hC hr
  go_enter Try.func17, Try.ntmps17
  go_wp2
  go_quiet (fail)
  go_wp2
  obtain ⟨W, hW⟩ : ∃ x, x = ((w.alloc (.cells #[.int .i64 8, .int .i64 1, .int .i64 (b : Int), .int .u8 (v : Int)] 35)).alloc (.cells #[.int .i64 0, .int .u8 0] 37)).drewN nq := ⟨_, rfl⟩
  have hWA : RefR W B lb sg ob DV WV yV qV mode S0 S1 t := by rw [hW]; exact HA.out.drewN nq
  have hWC : Ch w W (RefF lb ob WV yV qV S0 S1) := by rw [hW]; exact HC.out.drewN nq
  have hWB : BoxV W (w.heap.size + 1) 37 [.int .i64 0, .int .u8 0] := by rw [hW]; exact HRB.out.drewN nq
  have hWX : BoxV W w.heap.size 35 [.int .i64 8, .int .i64 1, .int .i64 (b : Int), .int .u8 (v : Int)] := by rw [hW]; exact HX.out.drewN nq
  rw [← hW]
  clear hW x0 x1 x2 om sj
  have y0 := hWX.cell (j := 0) rfl; have y1 := hWX.cell (j := 1) rfl; have y2 := hWX.cell (j := 2) rfl
  have sk := hWA.sit.cell (j := 1) rfl
  have cm := ref_moveB d b B S1.a S1.g 8 t.a1 W.drew ⟨hWA.a1.box, hWA.a1.row.drew, hWA.a1.ne⟩ (by decide) (by decide) (by unfold manyG; simp; omega) (by intro _; omega)
  rw [HR.out, show atK 8 = 4 by decide] at cm
  have HWA := Lib.hid hWA; have HWC := Lib.hid hWC; have HWB := Lib.hid hWB
  clear hWA hWC hWB hWX
  go_region_law (go_simp; go_at_call 25; refine cm.mono ?_; rintro e w2 hap; have hch := hap.ch; obtain ⟨rfl, ha2, _⟩ := hap)
  all_goals
    have hwd : RefR W.drew B lb sg ob DV WV yV qV mode S0 S1 t := HWA.out.below ((Below.refl _ _).drew)
    have hp2 := hwd.ch1 (a := r.a) ha2 hch hbl
    have hb2 : BoxV w2 (w.heap.size + 1) 37 [.int .i64 0, .int .u8 0] := BoxV.ch (w := W.drew) HWB.out hch (fun hf => by
      rcases hf with e | e
      · exact ty_ne HWB.out HWA.out.a1.box (by decide) e
      · obtain ⟨c, ec⟩ := HWA.out.a1.gTy; exact ty_ne HWB.out ec (by decide) e)
    have r0 := hb2.cell (j := 0) rfl; have r1 := hb2.cell (j := 1) rfl; have r2 := hb2.free 0; have r3 := hb2.free 1
    have HP2 := Lib.hid hp2; have HB2 := Lib.hid hb2
    have HCH : Hid (Ch w w2 (RefF lb ob WV yV qV S0 S1)) := (HWC.out.drew).trans hch (fun q _ e => by rcases e with e | e; exact .inr (.inr (.inr (.inr (.inl e)))); exact .inr (.inr (.inr (.inr (.inr (.inl e))))))
    clear hch ha2 hwd hp2 hb2 y0 y1 y2 sk cm
    go_wp2_with fail
    have hB1 := HB2.out.set 0 (.int .i64 (r.e : Int))
    have hB2 := hB1.set 1 (.int .u8 (r.v : Int))
    have F0 := hB2.cell (j := 0) rfl; have F1 := hB2.cell (j := 1) rfl
    refine bodyPost_ret (v := .agg #[.int .i64 (r.e : Int), .int .u8 (r.v : Int)]) (by simp [results, Try.f17, go_sem, F0, F1]) rfl ?_
    exact ⟨r.e, r.v, WV, yV, qV, rfl, rfl, ((HP2.out.setDone HB2.out _).setDone hB1 _).outs _, (HCH.out.setNew (by omega) _).setNew (by omega) _⟩
set_option maxRecDepth 100000 in
set_option maxHeartbeats 4000000 in
theorem paired_at9_0 (h : RefR w B lb sg ob DV WV yV qV mode S0 S1 t) (hb : b < 24) (hm : t.main ≤ 0) :
    Calls Try.prog 17 #[.pointer (some ⟨lb, 0, none⟩), .slice (some ⟨sg, 0, none⟩) 2 2, .pointer (some ⟨ob, 0, none⟩), .int .i64 (d : Int), stV ⟨9, 0, (b : Int), v⟩] w (RefP w B lb sg ob DV WV yV qV mode S0 S1 t (stepG (mvB d) mode d t ⟨9, 0, (b : Int), v⟩)) := by
  obtain ⟨r, hr⟩ : ∃ r, mvB d t.a0 (atK 9) (b : Int) 0 = r := ⟨_, rfl⟩
  have hG : stepG (mvB d) mode d t ⟨9, 0, (b : Int), v⟩ = { t with outs := t.outs ++ [(r.e, r.v)], a0 := r.a } := by
    unfold stepG; rw [if_neg (by simp), if_neg (by simp), if_neg (by simp), if_pos (by simp)]; unfold atG manyG; rw [if_neg (by simp; omega), if_pos (by simp)]; simp only [hr]
  rw [hG]
  unfold stV
  simp only
  have hbx : BoxV (w.alloc (.cells #[.int .i64 9, .int .i64 0, .int .i64 (b : Int), .int .u8 (v : Int)] 35)) w.heap.size 35 [.int .i64 9, .int .i64 0, .int .i64 (b : Int), .int .u8 (v : Int)] := BoxV.new w _ _
  have hbA := hbx.alloc (.cells #[.int .i64 0, .int .u8 0] 37)
  have x0 := hbA.cell (j := 0) rfl; have x1 := hbA.cell (j := 1) rfl; have x2 := hbA.cell (j := 2) rfl
  have hA0 := (h.alloc (.cells #[.int .i64 9, .int .i64 0, .int .i64 (b : Int), .int .u8 (v : Int)] 35)).alloc (.cells #[.int .i64 0, .int .u8 0] 37)
  have om := hA0.out.cell (j := 2) rfl
  have sj := hA0.sit.cell (j := 0) rfl
  have hrb : BoxV ((w.alloc (.cells #[.int .i64 9, .int .i64 0, .int .i64 (b : Int), .int .u8 (v : Int)] 35)).alloc (.cells #[.int .i64 0, .int .u8 0] 37)) (w.heap.size + 1) 37 [.int .i64 0, .int .u8 0] := by
    have := BoxV.new (w.alloc (.cells #[.int .i64 9, .int .i64 0, .int .i64 (b : Int), .int .u8 (v : Int)] 35)) [.int .i64 0, .int .u8 0] 37
    simpa using this
  have hC : Ch w ((w.alloc (.cells #[.int .i64 9, .int .i64 0, .int .i64 (b : Int), .int .u8 (v : Int)] 35)).alloc (.cells #[.int .i64 0, .int .u8 0] 37)) (RefF lb ob WV yV qV S0 S1) := ((Ch.refl _ _).alloc _).alloc _
  have hbl : r.a.1.length = 24 := by rw [← hr, mvB_bl d t.a0 _ _ _ (by decide)]; exact h.l0
  have i1 : ¬ (0 : Int) < (t.main : Int) := by omega
  have i2 : ¬ (b : Int) < 0 := by omega
  have i3 : ¬ (24 : Int) ≤ (b : Int) := by omega
  have HA := Lib.hid hA0
  have HC := Lib.hid hC
  have HRB := Lib.hid hrb
  have HR := Lib.hid hr
  have HX := Lib.hid hbA
  clear h hG hbx hbA hA0 hrb hC hr
  go_enter Try.func17, Try.ntmps17
  go_wp2
  go_quiet (fail)
  go_wp2
  obtain ⟨W, hW⟩ : ∃ x, x = ((w.alloc (.cells #[.int .i64 9, .int .i64 0, .int .i64 (b : Int), .int .u8 (v : Int)] 35)).alloc (.cells #[.int .i64 0, .int .u8 0] 37)).drewN nq := ⟨_, rfl⟩
  have hWA : RefR W B lb sg ob DV WV yV qV mode S0 S1 t := by rw [hW]; exact HA.out.drewN nq
  have hWC : Ch w W (RefF lb ob WV yV qV S0 S1) := by rw [hW]; exact HC.out.drewN nq
  have hWB : BoxV W (w.heap.size + 1) 37 [.int .i64 0, .int .u8 0] := by rw [hW]; exact HRB.out.drewN nq
  have hWX : BoxV W w.heap.size 35 [.int .i64 9, .int .i64 0, .int .i64 (b : Int), .int .u8 (v : Int)] := by rw [hW]; exact HX.out.drewN nq
  rw [← hW]
  clear hW x0 x1 x2 om sj
  have y0 := hWX.cell (j := 0) rfl; have y1 := hWX.cell (j := 1) rfl; have y2 := hWX.cell (j := 2) rfl
  have sk := hWA.sit.cell (j := 0) rfl
  have cm := ref_moveB d b B S0.a S0.g 9 t.a0 W.drew ⟨hWA.a0.box, hWA.a0.row.drew, hWA.a0.ne⟩ (by decide) (by decide) (by unfold manyG; simp; omega) (by intro _; omega)
  rw [HR.out, show atK 9 = 2 by decide] at cm
  have HWA := Lib.hid hWA; have HWC := Lib.hid hWC; have HWB := Lib.hid hWB
  clear hWA hWC hWB hWX
  go_region_law (go_simp; go_at_call 25; refine cm.mono ?_; rintro e w2 hap; have hch := hap.ch; obtain ⟨rfl, ha2, _⟩ := hap)
  all_goals
    have hwd : RefR W.drew B lb sg ob DV WV yV qV mode S0 S1 t := HWA.out.below ((Below.refl _ _).drew)
    have hp2 := hwd.ch0 (a := r.a) ha2 hch hbl
    have hb2 : BoxV w2 (w.heap.size + 1) 37 [.int .i64 0, .int .u8 0] := BoxV.ch (w := W.drew) HWB.out hch (fun hf => by
      rcases hf with e | e
      · exact ty_ne HWB.out HWA.out.a0.box (by decide) e
      · obtain ⟨c, ec⟩ := HWA.out.a0.gTy; exact ty_ne HWB.out ec (by decide) e)
    have r0 := hb2.cell (j := 0) rfl; have r1 := hb2.cell (j := 1) rfl; have r2 := hb2.free 0; have r3 := hb2.free 1
    have HP2 := Lib.hid hp2; have HB2 := Lib.hid hb2
    have HCH : Hid (Ch w w2 (RefF lb ob WV yV qV S0 S1)) := (HWC.out.drew).trans hch (fun q _ e => by rcases e with e | e; exact .inr (.inr (.inl e)); exact .inr (.inr (.inr (.inl e))))
    clear hch ha2 hwd hp2 hb2 y0 y1 y2 sk cm
    go_wp2_with fail
    have hB1 := HB2.out.set 0 (.int .i64 (r.e : Int))
    have hB2 := hB1.set 1 (.int .u8 (r.v : Int))
    have F0 := hB2.cell (j := 0) rfl; have F1 := hB2.cell (j := 1) rfl
    refine bodyPost_ret (v := .agg #[.int .i64 (r.e : Int), .int .u8 (r.v : Int)]) (by simp [results, Try.f17, go_sem, F0, F1]) rfl ?_
    exact ⟨r.e, r.v, WV, yV, qV, rfl, rfl, ((HP2.out.setDone HB2.out _).setDone hB1 _).outs _, (HCH.out.setNew (by omega) _).setNew (by omega) _⟩
set_option maxRecDepth 100000 in
set_option maxHeartbeats 4000000 in
theorem paired_at9_1 (h : RefR w B lb sg ob DV WV yV qV mode S0 S1 t) (hb : b < 24) (hm : t.main ≤ 1) :
    Calls Try.prog 17 #[.pointer (some ⟨lb, 0, none⟩), .slice (some ⟨sg, 0, none⟩) 2 2, .pointer (some ⟨ob, 0, none⟩), .int .i64 (d : Int), stV ⟨9, 1, (b : Int), v⟩] w (RefP w B lb sg ob DV WV yV qV mode S0 S1 t (stepG (mvB d) mode d t ⟨9, 1, (b : Int), v⟩)) := by
  obtain ⟨r, hr⟩ : ∃ r, mvB d t.a1 (atK 9) (b : Int) 0 = r := ⟨_, rfl⟩
  have hG : stepG (mvB d) mode d t ⟨9, 1, (b : Int), v⟩ = { t with outs := t.outs ++ [(r.e, r.v)], a1 := r.a } := by
    unfold stepG; rw [if_neg (by simp), if_neg (by simp), if_neg (by simp), if_pos (by simp)]; unfold atG manyG; rw [if_neg (by simp; omega), if_neg (by simp)]; simp only [hr]
  rw [hG]
  unfold stV
  simp only
  have hbx : BoxV (w.alloc (.cells #[.int .i64 9, .int .i64 1, .int .i64 (b : Int), .int .u8 (v : Int)] 35)) w.heap.size 35 [.int .i64 9, .int .i64 1, .int .i64 (b : Int), .int .u8 (v : Int)] := BoxV.new w _ _
  have hbA := hbx.alloc (.cells #[.int .i64 0, .int .u8 0] 37)
  have x0 := hbA.cell (j := 0) rfl; have x1 := hbA.cell (j := 1) rfl; have x2 := hbA.cell (j := 2) rfl
  have hA0 := (h.alloc (.cells #[.int .i64 9, .int .i64 1, .int .i64 (b : Int), .int .u8 (v : Int)] 35)).alloc (.cells #[.int .i64 0, .int .u8 0] 37)
  have om := hA0.out.cell (j := 2) rfl
  have sj := hA0.sit.cell (j := 1) rfl
  have hrb : BoxV ((w.alloc (.cells #[.int .i64 9, .int .i64 1, .int .i64 (b : Int), .int .u8 (v : Int)] 35)).alloc (.cells #[.int .i64 0, .int .u8 0] 37)) (w.heap.size + 1) 37 [.int .i64 0, .int .u8 0] := by
    have := BoxV.new (w.alloc (.cells #[.int .i64 9, .int .i64 1, .int .i64 (b : Int), .int .u8 (v : Int)] 35)) [.int .i64 0, .int .u8 0] 37
    simpa using this
  have hC : Ch w ((w.alloc (.cells #[.int .i64 9, .int .i64 1, .int .i64 (b : Int), .int .u8 (v : Int)] 35)).alloc (.cells #[.int .i64 0, .int .u8 0] 37)) (RefF lb ob WV yV qV S0 S1) := ((Ch.refl _ _).alloc _).alloc _
  have hbl : r.a.1.length = 24 := by rw [← hr, mvB_bl d t.a1 _ _ _ (by decide)]; exact h.l1
  have i1 : ¬ (1 : Int) < (t.main : Int) := by omega
  have i2 : ¬ (b : Int) < 0 := by omega
  have i3 : ¬ (24 : Int) ≤ (b : Int) := by omega
  have HA := Lib.hid hA0
  have HC := Lib.hid hC
  have HRB := Lib.hid hrb
  have HR := Lib.hid hr
  have HX := Lib.hid hbA
  clear h hG hbx hbA hA0 hrb hC hr
  go_enter Try.func17, Try.ntmps17
  go_wp2
  go_quiet (fail)
  go_wp2
  obtain ⟨W, hW⟩ : ∃ x, x = ((w.alloc (.cells #[.int .i64 9, .int .i64 1, .int .i64 (b : Int), .int .u8 (v : Int)] 35)).alloc (.cells #[.int .i64 0, .int .u8 0] 37)).drewN nq := ⟨_, rfl⟩
  have hWA : RefR W B lb sg ob DV WV yV qV mode S0 S1 t := by rw [hW]; exact HA.out.drewN nq
  have hWC : Ch w W (RefF lb ob WV yV qV S0 S1) := by rw [hW]; exact HC.out.drewN nq
  have hWB : BoxV W (w.heap.size + 1) 37 [.int .i64 0, .int .u8 0] := by rw [hW]; exact HRB.out.drewN nq
  have hWX : BoxV W w.heap.size 35 [.int .i64 9, .int .i64 1, .int .i64 (b : Int), .int .u8 (v : Int)] := by rw [hW]; exact HX.out.drewN nq
  rw [← hW]
  clear hW x0 x1 x2 om sj
  have y0 := hWX.cell (j := 0) rfl; have y1 := hWX.cell (j := 1) rfl; have y2 := hWX.cell (j := 2) rfl
  have sk := hWA.sit.cell (j := 1) rfl
  have cm := ref_moveB d b B S1.a S1.g 9 t.a1 W.drew ⟨hWA.a1.box, hWA.a1.row.drew, hWA.a1.ne⟩ (by decide) (by decide) (by unfold manyG; simp; omega) (by intro _; omega)
  rw [HR.out, show atK 9 = 2 by decide] at cm
  have HWA := Lib.hid hWA; have HWC := Lib.hid hWC; have HWB := Lib.hid hWB
  clear hWA hWC hWB hWX
  go_region_law (go_simp; go_at_call 25; refine cm.mono ?_; rintro e w2 hap; have hch := hap.ch; obtain ⟨rfl, ha2, _⟩ := hap)
  all_goals
    have hwd : RefR W.drew B lb sg ob DV WV yV qV mode S0 S1 t := HWA.out.below ((Below.refl _ _).drew)
    have hp2 := hwd.ch1 (a := r.a) ha2 hch hbl
    have hb2 : BoxV w2 (w.heap.size + 1) 37 [.int .i64 0, .int .u8 0] := BoxV.ch (w := W.drew) HWB.out hch (fun hf => by
      rcases hf with e | e
      · exact ty_ne HWB.out HWA.out.a1.box (by decide) e
      · obtain ⟨c, ec⟩ := HWA.out.a1.gTy; exact ty_ne HWB.out ec (by decide) e)
    have r0 := hb2.cell (j := 0) rfl; have r1 := hb2.cell (j := 1) rfl; have r2 := hb2.free 0; have r3 := hb2.free 1
    have HP2 := Lib.hid hp2; have HB2 := Lib.hid hb2
    have HCH : Hid (Ch w w2 (RefF lb ob WV yV qV S0 S1)) := (HWC.out.drew).trans hch (fun q _ e => by rcases e with e | e; exact .inr (.inr (.inr (.inr (.inl e)))); exact .inr (.inr (.inr (.inr (.inr (.inl e))))))
    clear hch ha2 hwd hp2 hb2 y0 y1 y2 sk cm
    go_wp2_with fail
    have hB1 := HB2.out.set 0 (.int .i64 (r.e : Int))
    have hB2 := hB1.set 1 (.int .u8 (r.v : Int))
    have F0 := hB2.cell (j := 0) rfl; have F1 := hB2.cell (j := 1) rfl
    refine bodyPost_ret (v := .agg #[.int .i64 (r.e : Int), .int .u8 (r.v : Int)]) (by simp [results, Try.f17, go_sem, F0, F1]) rfl ?_
    exact ⟨r.e, r.v, WV, yV, qV, rfl, rfl, ((HP2.out.setDone HB2.out _).setDone hB1 _).outs _, (HCH.out.setNew (by omega) _).setNew (by omega) _⟩
end
end Go.Proofs.Ytbhhijdpmpcdnaa

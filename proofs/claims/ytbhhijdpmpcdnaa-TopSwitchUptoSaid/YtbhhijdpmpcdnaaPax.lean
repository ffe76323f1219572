/-
  pair.Play.
-/
import Derived.Test.YtbhhijdpmpcdnaaPaw
set_option linter.unusedVariables false
namespace Go.Proofs.Ytbhhijdpmpcdnaa
open Go.RowKit

/-- blocks of other types changed -/
theorem PrR.chTy {w w' : World} {B pb d mode : Nat} {WV : Value} {T0 T1 : Tb} {t : PrT ArP} {F : Nat → Prop} (h : PrR w B pb WV d mode T0 T1 t) (hc : Ch w w' F) (hF : ∀ b, F b → ∀ cur E m, w.heap[b]? = some (.cells cur E m) → E ≠ 48 ∧ E ≠ 35 ∧ E ≠ 66 ∧ E ≠ 5 ∧ E ≠ 33) : PrR w' B pb WV d mode T0 T1 t := by
  have hG : ∀ b, F b → ∀ cur E m, w.heap[b]? = some (.cells cur E m) → E ≠ 66 ∧ E ≠ 5 ∧ E ≠ 33 := fun b hb cur E m e => (hF b hb cur E m e).2.2
  exact ⟨LineB.keep h.line (hc.block _ h.line.lt (fun hf => (hF _ hf _ _ _ h.line).1 rfl)), h.wri.ch hc (fun b hb hf => by obtain ⟨c, e⟩ := h.wri.ty hb; exact (hF _ hf _ _ _ e).2.1 rfl), h.tab0.chTy hc hG, h.tab1.chTy hc hG, h.ap, h.low, h.lt0, h.lt1⟩
theorem PrR.rowCh {w w' : World} {B pb d mode k base : Nat} {WV v : Value} {T0 T1 : Tb} {t : PrT ArP} {E : TypeId} {xss : List (List Value)} (h : PrR w B pb WV d mode T0 T1 t) (hc : Ch w w' (PrF pb WV d T0 T1)) (ho : OwnK w base E k v xss) (h1 : E ≠ 48 ∧ E ≠ 35 ∧ E ≠ 66 ∧ E ≠ 5) : OwnK w' base E k v xss :=
  ho.ch hc (fun g hg hf => by
    obtain ⟨c1, e1⟩ := ho.ty hg
    obtain ⟨c2, E2, e2, h2⟩ := h.fTy hf
    rw [e1] at e2
    injection e2 with e2
    injection e2 with _ e
    subst e
    obtain ⟨a, b, c, d⟩ := h1
    rcases h2 with h2 | h2 | h2 | h2
    · exact a h2
    · exact b h2
    · exact c h2
    · exact d h2)
theorem PrR.boxCh {w w' : World} {B pb d mode b : Nat} {WV : Value} {T0 T1 : Tb} {t : PrT ArP} {E : TypeId} {vs : List Value} (h : PrR w B pb WV d mode T0 T1 t) (hc : Ch w w' (PrF pb WV d T0 T1)) (ho : BoxV w b E vs) (h1 : E ≠ 48 ∧ E ≠ 35 ∧ E ≠ 66 ∧ E ≠ 5) : BoxV w' b E vs :=
  ho.ch hc (fun hf => by
    obtain ⟨c2, E2, e2, h2⟩ := h.fTy hf
    rw [show w.heap[b]? = _ from ho] at e2
    injection e2 with e2
    injection e2 with _ e
    subst e
    obtain ⟨a, b, c, d⟩ := h1
    rcases h2 with h2 | h2 | h2 | h2
    · exact a h2
    · exact b h2
    · exact c h2
    · exact d h2)
/-- how many were told in the end -/
def toldF {α : Type} (mode : Nat) (t : PrT α) : Nat := if t.main = 0 then tellG mode t else t.told
theorem done_ty {w : World} {base k : Nat} {v : Value} {xss : List (List Value)} {b : Nat} {cur : Array Value} {E : TypeId} {m : Nat × Nat} (ho : OwnK w base 37 k v xss) (hb : v.ownBlock = some b) (e : w.heap[b]? = some (.cells cur E m)) : E = 37 := by
  obtain ⟨c1, e1⟩ := ho.ty hb
  rw [e1] at e
  injection e with e
  injection e with _ e
  exact e.symm
theorem el_doneP : ElemK Try.prog 23 37 2 16 := ElemK.mk' (z := .agg #[.int .i64 0, .int .u8 0]) Try.underlying23 (by kernel_rfl) rfl (by omega)
theorem dn_snocP (outs : List (Nat × Nat)) (e v : Nat) : outs.map dnC ++ [(#[Value.int .i64 (e : Int), Value.int .u8 (v : Int)] : Array Value).toList] = (outs ++ [(e, v)]).map dnC := by simp [dnC]
theorem pair_startR {w2 : World} {B b0 h0 b1 h1 d mode : Nat} {g0 g1 : Nat → Nat} (t0 : TabT w2 d ⟨b0, h0, g0⟩ startP) (t1 : TabT w2 d ⟨b1, h1, g1⟩ startP) (ap : h0 < b1 ∧ (∀ i, i < d → g0 i < b1) ∧ b0 < b1) (low : B ≤ b0) (hB : B ≤ w2.heap.size) :
    PrR (w2.alloc (.cells #[.int .i64 (mode : Int), .slice none 0 0, .int .i64 0, .int .i64 0, .int .i64 0, .int .i64 0, .pointer (some ⟨h0, 0, none⟩), .pointer (some ⟨h1, 0, none⟩), .int .i64 0, .int .i64 0] 48)) B w2.heap.size (.slice none 0 0) d mode ⟨b0, h0, g0⟩ ⟨b1, h1, g1⟩ ⟨[], [], 0, 0, 0, 0, startP, startP, 0, 0⟩ :=
  ⟨BoxV.new w2 _ _, OwnQ.nil _ _ _ _, t0.below ((Below.refl _ _).alloc (Nat.le_refl _) _), t1.below ((Below.refl _ _).alloc (Nat.le_refl _) _), ap, ⟨low, hB⟩, fun _ _ => by show 0 < 256; omega, fun _ _ => by show 0 < 256; omega⟩
set_option maxRecDepth 100000 in
set_option maxHeartbeats 4000000 in
theorem pair_Play (mode d : Nat) (A : Option Addr) (n c : Nat) (l : List StS) (w : World) (h : ReadsK w w.heap.size 4 A n (l.map stC)) (hl : ∀ m ∈ l, m.val < 256) (m1 : 1 ≤ mode) (m3 : mode ≤ 3) (h3 : 3 ≤ d) (h6 : d ≤ 6) (hn : n ≤ 100) :
    Calls Try.prog 7 #[.int .i64 (mode : Int), .int .i64 (d : Int), .slice A n c] w (fun e w' => ∃ A1 c1, e = .returned (.tuple #[.agg #[.slice A1 n c1, .int .i64 (toldF mode (playG (mvP d) mode d startP l n) : Int), .int .i64 ((playG (mvP d) mode d startP l n).main : Int)], .int .i64 0]) ∧ OwnK w' w.heap.size 37 2 (.slice A1 n c1) ((playG (mvP d) mode d startP l n).outs.map dnC) ∧ Below w.heap.size w w') := by
  have HR := Lib.hid h
  have HL := Lib.hid hl
  have HN : Hid (l.length = n) := by have := h.len; rwa [List.length_map] at this
  obtain ⟨px, py, hp⟩ : ∃ x y, placeRes3 (d : Int) 0 = (x, y, 0) := by
    unfold placeRes3
    rw [if_neg (by omega), if_neg (by omega)]
    exact ⟨_, _, rfl⟩
  have cp := fun W => stripe_Place (d : Int) 0 px py 0 W hp
  have cn := fun W => stripe_New d W h3 h6
  have i64 : ¬ (100 : Int) < (n : Int) := by omega
  have i1 : ¬ (mode : Int) < 1 := by omega
  have i3 : ¬ (3 : Int) < (mode : Int) := by omega
  clear h hl hp
  go_enter Try.func7, Try.ntmps7
  go_wp2_with (first
    | (go_at_call 13; refine (cp _).mono ?_; clear cp; rintro e w' ⟨rfl, rfl⟩)
    | (go_at_call 14; refine (cn (w.alloc (.cells #[.slice none 0 0, .int .i64 0, .int .i64 0] 25))).mono ?_; rintro e w1 ⟨h0, g0, rfl, ht0, hb1⟩)
    | (go_at_call 14; refine (cn w1).mono ?_; clear cn; rintro e w2 ⟨h1, g1, rfl, ht1, hb2⟩))
  rw [show (w.alloc (.cells #[.slice none 0 0, .int .i64 0, .int .i64 0] 25)).heap.size = w.heap.size + 1 by simp] at ht0 hb1
  have h4 : w.heap.size + 1 ≤ w1.heap.size := by simpa using hb1.size
  have h5 := hb2.size
  have hbz : BoxV (w2.alloc (.cells #[.int .i64 (mode : Int), .slice none 0 0, .int .i64 0, .int .i64 0, .int .i64 0, .int .i64 0, .pointer (some ⟨h0, 0, none⟩), .pointer (some ⟨h1, 0, none⟩), .int .i64 0, .int .i64 0] 48)) w.heap.size 25 [.slice none 0 0, .int .i64 0, .int .i64 0] := (((BoxV.new w [.slice none 0 0, .int .i64 0, .int .i64 0] 25).below (by simpa using hb1)).below hb2).alloc _
  have hP0 := pair_startR (w2 := w2) (B := w.heap.size) (mode := mode) (TabT.below (T := ⟨w.heap.size + 1, h0, g0⟩) (a := startP) ht0 hb2) (show TabT w2 d ⟨w1.heap.size, h1, g1⟩ startP from ht1) ⟨ht0.lt, fun i hi => ((ht0.row i hi).lt (g0 i) rfl).2, (ht0.col.lt _ rfl).2⟩ (by omega) (by omega)
  have hB0 : Below w.heap.size w (w2.alloc (.cells #[.int .i64 (mode : Int), .slice none 0 0, .int .i64 0, .int .i64 0, .int .i64 0, .int .i64 0, .pointer (some ⟨h0, 0, none⟩), .pointer (some ⟨h1, 0, none⟩), .int .i64 0, .int .i64 0] 48)) := ((((Below.refl _ w).alloc (Nat.le_refl _) (.cells #[.slice none 0 0, .int .i64 0, .int .i64 0] 25)).trans (hb1.mono (by omega))).trans (hb2.mono (by omega))).alloc (by omega) _
  obtain ⟨T0, hT0⟩ : ∃ T : Tb, (⟨w.heap.size + 1, h0, g0⟩ : Tb) = T := ⟨_, rfl⟩
  obtain ⟨T1, hT1⟩ : ∃ T : Tb, (⟨w1.heap.size, h1, g1⟩ : Tb) = T := ⟨_, rfl⟩
  obtain ⟨pb, hpb⟩ : ∃ p, w2.heap.size = p := ⟨_, rfl⟩
  rw [hT0, hT1] at hP0
  have hpb2 : w.heap.size < pb := by omega
  rw [hpb] at hP0
  have HP0 := Lib.hid hP0
  have HBZ := Lib.hid hbz
  have HB0 := Lib.hid hB0
  have HPB := Lib.hid hpb2
  simp only [hpb]
  clear hT0 hT1 hP0 hbz hB0 ht0 hb1 ht1 hb2 hpb2 h4 h5
  go_loopw [12, 49] (fun ov iv wr => ∃ (k : Nat) (WV : Value), k ≤ n ∧ iv = .int .i64 (k : Int) ∧ PrR wr w.heap.size pb WV d mode T0 T1 (playG (mvP d) mode d startP l k) ∧ OwnK wr w.heap.size 37 2 ov ((playG (mvP d) mode d startP l k).outs.map dnC) ∧ BoxV wr w.heap.size 25 [.slice none 0 0, .int .i64 0, .int .i64 0] ∧ Below w.heap.size w wr) (fun _ iv _ => n - (intOf iv).toNat)
  case atStart => exact ⟨0, _, Nat.zero_le _, rfl, HP0.out, OwnK.nil _ _ _ _, HBZ.out, HB0.out⟩
  case round =>
    obtain ⟨k, WV, hk, rfl, hpr, hown, hbx, hbel⟩ := hrel
    obtain ⟨wo, rfl⟩ : ∃ x, x = wr := ⟨_, rfl⟩
    obtain ⟨ov, rfl⟩ : ∃ x, x = u12 := ⟨_, rfl⟩
    clear HP0 HBZ HB0 hpb
    by_cases hlt : k < n
    · obtain ⟨ad, xs, rfl, hadb, hx, _, hc⟩ := (HR.out.below hbel).at_ hlt
      rw [List.getElem?_map] at hx
      obtain ⟨⟨kind, site, block, v⟩, hm, rfl⟩ := Option.map_eq_some_iff.1 hx
      have hv256 : v < 256 := HL.out _ (List.mem_of_getElem? hm)
      have d0 := hc 0 _ rfl
      have d1 := hc 1 _ rfl
      have d2 := hc 2 _ rfl
      have d3 := hc 3 _ rfl
      rw [Nat.add_zero] at d0
      rw [add_offP _ _ _ (by decide)] at d1 d2 d3
      have hok := PrOk.play (mvP d) HL.out mode d startP k (by have := HN.out; omega)
      have hnx := playG_next (mvP d) (mode := mode) (d := d) (a := startP) hm
      generalize playG (mvP d) mode d startP l k = t at *
      have i0 : (0 : Int) ≤ (k : Int) := by omega
      have i1 : (k : Int) < (n : Int) := by omega
      have hB1 : Below wo.heap.size wo (wo.alloc (.cells #[.int .i64 kind, .int .i64 site, .int .i64 block, .int .u8 (v : Int)] 35)) := (Below.refl _ wo).alloc (Nat.le_refl _) _
      have hbs : BoxV (wo.alloc (.cells #[.int .i64 kind, .int .i64 site, .int .i64 block, .int .u8 (v : Int)] 35)) wo.heap.size 35 [.int .i64 kind, .int .i64 site, .int .i64 block, .int .u8 (v : Int)] := BoxV.new wo _ _
      have x0 := hbs.cell (j := 0) rfl; have x1 := hbs.cell (j := 1) rfl; have x2 := hbs.cell (j := 2) rfl; have x3 := hbs.cell (j := 3) rfl
      have cs := pair_step w.heap.size pb d mode WV T0 T1 t ⟨kind, site, block, v⟩ _ (hpr.alloc (.cells #[.int .i64 kind, .int .i64 site, .int .i64 block, .int .u8 (v : Int)] 35)) k hok (by omega) h3 h6 hv256 (by have := hbel.size; simp; omega)
      unfold stV at cs
      have HPR := Lib.hid (hpr.alloc (.cells #[.int .i64 kind, .int .i64 site, .int .i64 block, .int .u8 (v : Int)] 35))
      have HOW := Lib.hid (hown.below hB1 (Nat.le_refl _))
      have HBX := Lib.hid (hbx.alloc (.cells #[.int .i64 kind, .int .i64 site, .int .i64 block, .int .u8 (v : Int)] 35))
      have HBE := Lib.hid (hbel.alloc (by have := hbel.size; omega) (.cells #[.int .i64 kind, .int .i64 site, .int .i64 block, .int .u8 (v : Int)] 35))
      have HNX := Lib.hid hnx
      have hol := hok.ol
      have HOL := Lib.hid hol
      clear hx hc hm hnx hpr hown hbx hbel hB1 hbs hok hol
      go_wp2_with (first
        | (go_at_call 15; refine cs.mono ?_; clear cs; rintro e w2 ⟨ev, vv, WV2, rfl, ho2, hp2, hc2⟩
           have hown2 := HPR.out.rowCh hc2 HOW.out ⟨by decide, by decide, by decide, by decide⟩
           have hbx2 := HPR.out.boxCh hc2 HBX.out ⟨by decide, by decide, by decide, by decide⟩
           have hbe2 := HBE.out.trans (hc2.below (by have := HBE.out.size; exact this) (fun b _ q => HPR.out.fLow q))
           clear x0 x1 x2 x3 d0 d1 d2 d3)
        | (at_builtin; refine app1K el_doneP rfl _ _ rfl rfl hown2 #[.int .i64 (ev : Int), .int .u8 (vv : Int)] _ (by first | rfl | (go_simp; done) | (go_simp; rfl)) rfl (by simp [Value.oneCell']) (by have := HOL.out; simp; unfold maxLen; omega) (by have := HOL.out; simp; omega) (by have := hbe2.size; omega) ?_; intro v5 w5 ho5 hb5 hg5 hat5))
      rw [dn_snocP] at ho5
      have hF5 : ∀ b, ov.ownBlock = some b → ∀ cur E m, w2.heap[b]? = some (.cells cur E m) → E ≠ 48 ∧ E ≠ 35 ∧ E ≠ 66 ∧ E ≠ 5 ∧ E ≠ 33 := fun b hb cur E m e => by
        obtain rfl := done_ty hown2 hb e
        exact ⟨by decide, by decide, by decide, by decide, by decide⟩
      have hp5 := hp2.chTy (Ch.of_grown hg5) hF5
      have hbx5 := hbx2.ch (Ch.of_grown hg5) (fun e => hown2.notBox hbx2 (by decide) e)
      have hbe5 := hbe2.trans hb5
      rw [← ho2] at ho5
      have HP5 := Lib.hid hp5
      have HO5 := Lib.hid ho5
      have HX5 := Lib.hid hbx5
      have HB5 := Lib.hid hbe5
      clear hp5 ho5 hbx5 hbe5 hF5 hp2 ho2 hc2 hown2 hbx2 hbe2
      go_roundw
      case rel => exact ⟨k + 1, WV2, by omega, by go_num, by rw [HNX.out]; exact HP5.out, by rw [HNX.out]; exact HO5.out, HX5.out, HB5.out⟩
      case measure => simp [intOf] <;> omega
    · obtain rfl : n = k := by omega
      have hok := PrOk.play (mvP d) HL.out mode d startP n (by have := HN.out; omega)
      obtain ⟨t, ht⟩ : ∃ t, playG (mvP d) mode d startP l n = t := ⟨_, rfl⟩
      rw [ht] at hpr hown hok
      have HT := Lib.hid ht
      obtain ⟨A2, c2, rfl⟩ : ∃ A c, ov = .slice A n c := by
        obtain ⟨A, c, e⟩ := hown.form
        exact ⟨A, c, by rw [e, List.length_map, hok.ol]⟩
      clear ht hlt hk
      obtain ⟨A, c, rfl⟩ := hpr.wri.form
      rw [List.length_map] at hpr
      by_cases hm : t.main = 0
      · have ct := ship_Told pb t.ws.length c mode t.s t.g t.p t.k A wo hpr.line
        obtain ⟨TV, hTV⟩ : ∃ x : Nat, tellG mode t = x := ⟨_, rfl⟩
        rw [show (if mode = 1 then t.ws.length else t.k) = TV from hTV] at ct
        have hF : Hid (toldF mode t = TV) := by unfold Hid toldF; rw [if_pos hm, hTV]
        have q8 := hpr.line.cX (j := 2) rfl
        rw [hm] at q8
        have q9 := hpr.line.cX (j := 3) rfl
        have f9 : wo.frozen? ⟨pb, 9, none⟩ = false := hpr.line.free 9
        have hL1 := hpr.line.setX 3 (.int .i64 (TV : Int))
        have hp6 : PrR (wo.setCell ⟨pb, 9, none⟩ (.int .i64 (TV : Int))) w.heap.size pb _ d mode T0 T1 { t with told := TV } := hpr.boxed ((Ch.refl _ _).setCell pb 9 _ (fun _ => rfl)) hL1 rfl rfl rfl
        have ho6 := hown.ch ((Ch.refl wo (fun b => b = pb)).setCell pb 9 (.int .i64 (TV : Int)) (fun _ => rfl)) (fun b hb e => hown.notBox hpr.line (by decide) (by rw [hb, e]))
        have hx6 := hbx.setOther (c := pb) (j := 9) (.int .i64 (TV : Int)) (ty_ne hbx hpr.line (by decide))
        have hb6 := hbel.setCell (p := ⟨pb, 9, none⟩) (by have := HPB.out; simp; omega) (.int .i64 (TV : Int))
        have p8 := hp6.line.cX (j := 2) rfl
        have p9 := hp6.line.cX (j := 3) rfl
        rw [show (({ t with told := TV } : PrT ArP).main) = 0 from hm] at p8
        have HM := Lib.hid hm
        have r0 := hx6.cell (j := 0) rfl; have r1 := hx6.cell (j := 1) rfl; have r2 := hx6.cell (j := 2) rfl
        have f0 := hx6.free 0; have f1 := hx6.free 1; have f2 := hx6.free 2
        have HO6 := Lib.hid ho6
        have HX6 := Lib.hid hx6
        have HB6 := Lib.hid hb6
        clear hp6 ho6 hx6 hb6 hpr hown hbx hbel hL1 hTV hm hok
        go_wp2_with (go_at_call 16; refine ct.mono ?_; clear ct; rintro e w2 ⟨rfl, rfl⟩)
        go_region
        go_wp2_with fail
        have hF3 := ((HX6.out.set 0 (.slice A2 n c2)).set 1 (.int .i64 (TV : Int))).set 2 (.int .i64 0)
        have F0 := hF3.cell (j := 0) rfl; have F1 := hF3.cell (j := 1) rfl; have F2 := hF3.cell (j := 2) rfl
        have hnb := HO6.out.notBox HX6.out (by decide)
        refine bodyPost_ret (v := .tuple #[.agg #[.slice A2 n c2, .int .i64 (TV : Int), .int .i64 0], .int .i64 0]) (by simp [results, Try.f7, go_sem, F0, F1, F2]) rfl ?_
        refine ⟨A2, c2, by rw [HT.out, hF.out, HM.out]; rfl, ?_, ?_⟩
        · rw [HT.out]
          exact (HO6.out.ch ((((Ch.refl _ (fun b => b = w.heap.size)).setCell w.heap.size 0 (.slice A2 n c2) (fun _ => rfl)).setCell w.heap.size 1 (.int .i64 (TV : Int)) (fun _ => rfl)).setCell w.heap.size 2 (.int .i64 0) (fun _ => rfl)).drew (fun b hb e => hnb (by rw [hb, e])))
        · exact (((HB6.out.setCell (Nat.le_refl _) _).setCell (Nat.le_refl _) _).setCell (Nat.le_refl _) _).drew
      · have hm1 : t.main = 1 := hok.mn.resolve_left hm
        have hF : Hid (toldF mode t = t.told) := by unfold Hid toldF; rw [if_neg hm]
        have hp6 := hpr
        have ho6 := hown
        have hx6 := hbx
        have hb6 := hbel
        have p8 := hp6.line.cX (j := 2) rfl
        have p9 := hp6.line.cX (j := 3) rfl
        rw [hm1] at p8
        have HM := Lib.hid hm1
        have r0 := hx6.cell (j := 0) rfl; have r1 := hx6.cell (j := 1) rfl; have r2 := hx6.cell (j := 2) rfl
        have f0 := hx6.free 0; have f1 := hx6.free 1; have f2 := hx6.free 2
        have HO6 := Lib.hid ho6
        have HX6 := Lib.hid hx6
        have HB6 := Lib.hid hb6
        clear hp6 ho6 hx6 hb6 hpr hown hbx hbel hm hm1 hok
        go_wp2
        go_region
        go_wp2_with fail
        have hF3 := ((HX6.out.set 0 (.slice A2 n c2)).set 1 (.int .i64 (t.told : Int))).set 2 (.int .i64 1)
        have F0 := hF3.cell (j := 0) rfl; have F1 := hF3.cell (j := 1) rfl; have F2 := hF3.cell (j := 2) rfl
        have hnb := HO6.out.notBox HX6.out (by decide)
        refine bodyPost_ret (v := .tuple #[.agg #[.slice A2 n c2, .int .i64 (t.told : Int), .int .i64 1], .int .i64 0]) (by simp [results, Try.f7, go_sem, F0, F1, F2]) rfl ?_
        refine ⟨A2, c2, by rw [HT.out, hF.out, HM.out]; rfl, ?_, ?_⟩
        · rw [HT.out]
          exact (HO6.out.ch ((((Ch.refl _ (fun b => b = w.heap.size)).setCell w.heap.size 0 (.slice A2 n c2) (fun _ => rfl)).setCell w.heap.size 1 (.int .i64 (t.told : Int)) (fun _ => rfl)).setCell w.heap.size 2 (.int .i64 1) (fun _ => rfl)).drew (fun b hb e => hnb (by rw [hb, e])))
        · exact (((HB6.out.setCell (Nat.le_refl _) _).setCell (Nat.le_refl _) _).setCell (Nat.le_refl _) _).drew
end Go.Proofs.Ytbhhijdpmpcdnaa

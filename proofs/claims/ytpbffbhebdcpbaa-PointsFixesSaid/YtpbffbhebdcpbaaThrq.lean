/-
  quipuref.through: place by place one power more.
-/
import Derived.Test.YtpbffbhebdcpbaaThru
import Derived.Test.YtpbffbhebdcpbaaFieldm
import Derived.Test.YtpbffbhebdcpbaaFieldp
import Derived.Test.YtpbffbhebdcpbaaQuiet
set_option linter.unusedVariables false
namespace Go.Proofs.Ytpbffbhebdcpbaa
open Go.RowKit

theorem pm_y2 (O : List Nat) (c x : Nat) : pmF O c x (x + 1) ^^^ O.getD x 0 = pmF O c (x + 1) (x + 1) := by
  unfold pmF
  rw [if_neg (by omega), if_neg (by omega), if_neg (by omega), if_pos ⟨by omega, by omega⟩]
  simp
theorem pm_two (O : List Nat) (c x m : Nat) : ((pmL O c x m).set (x + 1) (pmF O c (x + 1) (x + 1))).set x (pmG O c x x) = pmL O c (x + 1) m := by
  rw [List.set_comm _ _ (by omega), pmG_step, pmF_step]
theorem getD_set_ne (l : List Nat) (i k a : Nat) (h : i ≠ k) : (l.set i a).getD k 0 = l.getD k 0 := by
  rw [List.getD_eq_getElem?_getD, List.getElem?_set, if_neg h, List.getD_eq_getElem?_getD]
theorem ze_ne {P : List Nat} {q i : Nat} (hok : okPs P) (hnd : P.Nodup) (hi : P[q]? = some i) : horn (i + 1) (zeP (P.take q)) ≠ 0 := by
  have hpre : okPs (P.take q) := fun j hj => hok j (List.mem_of_mem_take hj)
  have hnot : i ∉ P.take q := by
    have := hnd.sublist (List.take_sublist (q + 1) P)
    rw [take_next hi, List.nodup_append] at this
    intro h; exact this.2.2 i h i (by simp) rfl
  have hi9 := hok i (mem_at hi)
  unfold zeP
  rw [horn_ze (by omega) _ _ hpre one16]
  have : horn (i + 1) [1] = 1 := by simp [horn, zero_gm (show i + 1 < 16 by omega)]
  rw [this]
  exact zv_ne hi9 _ 1 hpre (by omega) (by omega) hnot
theorem nw_next (lv : Nat → Nat) {P : List Nat} {q i : Nat} (hi : P[q]? = some i) : nwK lv P (q + 1) = addP (nwK lv P q ++ [0]) (sclP (gm (lv i ^^^ horn (i + 1) (nwK lv P q)) (gp (horn (i + 1) (zeP (P.take q))) 14)) (zeP (P.take q))) := by
  rw [nwK]
  have : P.getD q 0 = i := by rw [List.getD_eq_getElem?_getD, hi]; rfl
  rw [this]; rfl

theorem below_fromDrewN {B n : Nat} {w w' : World} (h : Below B (w.drewN n) w') : Below B w w' := (below_drewN (Below.refl B w) n).trans h
set_option maxRecDepth 100000 in
set_option maxHeartbeats 4000000 in
theorem ref_through (A Ap : Option Addr) (n np c cp : Nat) (l : List Int) (P : List Nat) (w : World) (h : Reads w w.heap.size A n (vi .i64 l)) (hp : Reads w w.heap.size Ap np (vn .i64 P)) (hcp : np ≤ cp) (hn : n ≤ 9) (hnp : np ≤ 9) (hP : ∀ j ∈ P, j < n) (hnd : P.Nodup) (hl : ∀ j ∈ P, 0 ≤ l.getD j 0 ∧ l.getD j 0 < 16) :
    Calls Try.prog 36 #[.slice A n c, .slice Ap np cp] w (RetS w 3 (vn .i64 (nwK (lvI l) P np))) := by
  have hPl : P.length = np := hp.nat_len
  have hl2 : ∀ j ∈ P, lvI l j < 16 := fun j hj => by have := hl j hj; unfold lvI; omega
  have hok : okPs P := fun j hj => by have := hP j hj; omega
  have hS := fun (q : Nat) (hq : q ≤ np) => nw_props (lv := lvI l) hok hl2 hnd q (by omega)
  have HPL := Lib.hid hPl
  have HP := Lib.hid hP
  have HL := Lib.hid hl
  have HOK := Lib.hid hok
  have HS := Lib.hid hS
  clear hPl hl2 hP hl hok hS
  go_enter Try.func36, Try.ntmps36
  go_wp2
  go_loopw [5, 19] (fun v5 i wr => ∃ q : Nat, q ≤ np ∧ i = .int .i64 q ∧ Own wr w.heap.size 3 v5 (vn .i64 (nwK (lvI l) P q)) ∧ Below w.heap.size w wr) (fun _ i _ => np - (intOf i).toNat)
  case atStart => exact ⟨0, by omega, rfl, Own.nil _ _ _, Below.refl _ _⟩
  case round =>
    obtain ⟨q, hq, rfl, hown, hbel⟩ := hrel
    obtain ⟨wo, rfl⟩ : ∃ x, x = wr := ⟨_, rfl⟩
    obtain ⟨A5, c5, e5⟩ := hown.form
    obtain ⟨hs16, hsl, _⟩ := HS.out q hq
    have hvl : (vn .i64 (nwK (lvI l) P q)).length = q := by simpa [vn] using hsl
    rw [hvl] at e5
    subst e5
    have HOWN := Lib.hid hown
    clear hvl
    by_cases hlt : q < np
    · have i1 : (q : Int) < (np : Int) := by omega
      have hp1 := hp.below hbel
      obtain ⟨adp, i, e, _, hi, hci⟩ := hp1.nat_at (k := q) (by omega)
      subst e
      have hiP := mem_at hi
      have hin := HP.out i hiP
      have hi9 : i < 9 := by omega
      have h1 := h.below hbel
      obtain ⟨ad, z0, e, _, hv, hcv⟩ := h1.int_at (k := i) (by omega)
      subst e
      have hz0 : l.getD i 0 = z0 := by rw [List.getD_eq_getElem?_getD, hv]; rfl
      have hzb := HL.out i hiP
      rw [hz0] at hzb
      obtain ⟨v, rfl⟩ : ∃ v : Nat, z0 = v := ⟨z0.toNat, by omega⟩
      have hvD : lvI l i = v := by unfold lvI; rw [hz0]; rfl
      have hv16 : v < 16 := by omega
      clear hzb
      have HZ0 := Lib.hid hz0
      clear hz0
      have j1 : (i : Int) < (n : Int) := by omega
      have hN := nw_next (lvI l) hi
      rw [hvD] at hN
      have hzn := ze_ne HOK.out hnd hi
      have HN := Lib.hid hN
      have HZN := Lib.hid hzn
      generalize hs0 : nwK (lvI l) P q = s0 at *
      have HHS := Lib.hid hs16
      have HSL := Lib.hid hsl
      have HVD := Lib.hid hvD
      have HH1 := Lib.hid (h1.more hbel.size)
      have HP1 := Lib.hid (hp1.more hbel.size)
      clear hi hv hs16 hsl hown hs0 hN hzn hvD hiP hcv
      have HB1 : Hid (Below wo.heap.size wo (wo.alloc (.cells #[.int .i64 1] 3))) := (Below.refl _ wo).alloc (Nat.le_refl _) _
      have HOB : Hid (Own (wo.alloc (.cells #[.int .i64 1] 3)) wo.heap.size 3 (.slice (some ⟨wo.heap.size, 0, none⟩) 1 1) (vn .i64 [1])) := Own.built wo #[.int .i64 1] 1 rfl (by unfold maxLen; omega) (Nat.le_refl _)
      clear h1 hp1
      have i0 : (0 : Int) ≤ (q : Int) := by omega
      have i9 : (q : Int) ≤ (cp : Int) := by omega
      go_wp2
      go_loopw [8, 29] (fun v8 v33 wi => ∃ t g8 c8 : Nat, t ≤ q ∧ v33 = .int .i64 t ∧ v8 = .slice (some ⟨g8, 0, none⟩) (t + 1) c8 ∧ Own wi wo.heap.size 3 (.slice (some ⟨g8, 0, none⟩) (t + 1) c8) (vn .i64 (zeP (P.take t))) ∧ Below wo.heap.size wo wi) (fun _ i _ => q - (intOf i).toNat)
      case atStart => exact ⟨0, wo.heap.size, 1, by omega, rfl, rfl, HOB.out, HB1.out⟩
      case round =>
        obtain ⟨t, g8, c8, ht, rfl, rfl, hO, hbi⟩ := hrel
        obtain ⟨wi, rfl⟩ : ∃ x, x = wr := ⟨_, rfl⟩
        clear HB1 HOB
        have HO := Lib.hid hO
        have hg8 := hO.lt g8 rfl
        have HG8 := Lib.hid hg8
        have hsz := hbi.size
        clear hg8
        by_cases htl : t < q
        · have i2 : (t : Int) < (q : Int) := by omega
          have hp2 := HP1.out.below hbi
          obtain ⟨adp2, j, e, _, hj, hcj⟩ := hp2.nat_at (k := t) (by omega)
          injection e with e
          subst e
          have hjP := mem_at hj
          have hjn := HP.out j hjP
          have hj9 : j < 9 := by omega
          have HN2 : Hid (zeP (P.take (t + 1)) = mulP (j + 1) (zeP (P.take t))) := foldl_next zeStep [1] hj
          have ho16 := zeP_16 (ps := P.take t) (fun y hy => HOK.out y (List.mem_of_mem_take hy))
          have hom := hO.reads.nat_len
          generalize hO1 : zeP (P.take t) = O at *
          have HO16 := Lib.hid ho16
          have HOM := Lib.hid hom
          clear hj hjP hO1 ho16 hom hp2
          have c2 := fun (x : Nat) W => ref_Mul (O.getD x 0) (j + 1) W (getD_16 HO16.out x) (by omega)
          generalize hm : t + 1 = m at *
          clear hO
          go_wp2_with (at_make; refine mkN el_intP rfl _ _ rfl wi.heap.size (m + 1) rfl rfl rfl rfl (by omega) (by unfold maxLen; omega) (Nat.le_refl _) ?_; intro w3 ho3 hb3 hs3)
          rw [vn_rep, ← pmL_zero O (j + 1)] at ho3
          go_loopw [39] (fun v46 wf => ∃ x : Nat, x ≤ m ∧ v46 = .int .i64 x ∧ Own wf wi.heap.size 3 (.slice (some ⟨wi.heap.size, 0, none⟩) (m + 1) (m + 1)) (vn .i64 (pmL O (j + 1) x (m + 1))) ∧ Below wi.heap.size wi wf ∧ wi.heap.size < wf.heap.size) (fun i _ => m - (intOf i).toNat)
          case atStart => exact ⟨0, by omega, rfl, ho3, hb3, hs3⟩
          case round =>
            obtain ⟨x, hx, rfl, hF, hbf, hsf⟩ := hrel
            obtain ⟨wf, rfl⟩ : ∃ x, x = wr := ⟨_, rfl⟩
            clear ho3 hb3 hs3
            by_cases hxl : x < m
            · have i3 : (x : Int) < (m : Int) := by omega
              have i4 : (x : Int) < ((m : Int) + 1) := by omega
              have i5 : (x : Int) + 1 < ((m : Int) + 1) := by omega
              have c2 := c2 x
              obtain ⟨hc1, hf1, hst1, _⟩ := own_nat hF (i := x + 1) (by omega) (pmF O (j + 1) (x + 1) (x + 1))
              have hK2 := fun (wg : World) (ho : Own wg wi.heap.size 3 (.slice (some ⟨wi.heap.size, 0, none⟩) (m + 1) (m + 1)) (vn .i64 ((pmL O (j + 1) x (m + 1)).set (x + 1) (pmF O (j + 1) (x + 1) (x + 1))))) => own_nat ho (i := x) (by omega) (pmG O (j + 1) x x)
              simp only [pm_two, getD_set_ne _ (x + 1) x _ (by omega)] at hK2
              have hq0 : (pmL O (j + 1) x (m + 1)).getD x 0 = pmF O (j + 1) x x := getD_map_range _ (by omega)
              rw [hq0] at hK2
              rw [show (pmL O (j + 1) x (m + 1)).getD (x + 1) 0 = pmF O (j + 1) x (x + 1) from getD_map_range _ (by omega)] at hc1
              obtain ⟨hco, _, _, _⟩ := own_nat (HO.out.below hbf (Nat.le_refl _)) (i := x) hxl 0
              have hq1 : pmF O (j + 1) x x < 16 := pmF_16 HO16.out (by omega) _ _
              have hq2 := gm_lt (getD_16 HO16.out x) (show j + 1 < 16 by omega)
              have hq3 : pmF O (j + 1) x (x + 1) < 16 := pmF_16 HO16.out (by omega) _ _
              have hq4 := getD_16 HO16.out x
              have e1 := i64_xor_nat _ _ (show pmF O (j + 1) x x < 9223372036854775808 by omega) (show gm (O.getD x 0) (j + 1) < 9223372036854775808 by omega)
              have e2 := i64_xor_nat _ _ (show pmF O (j + 1) x (x + 1) < 9223372036854775808 by omega) (show O.getD x 0 < 9223372036854775808 by omega)
              rw [pm_x1] at e1
              rw [pm_y2] at e2
              have e0 : IntKind.i64.wrap ((j : Int) + 1) = (j : Int) + 1 := IntWalk.i64_in _ (by omega)
              have c3 : ∀ W, Calls Try.prog 54 #[.int .i64 (O.getD x 0 : Nat), .int .i64 ((j : Int) + 1)] W (Ret W (.int .i64 (gm (O.getD x 0) (j + 1) : Nat))) := c2
              have HE0 := Lib.hid e0
              have HK2 := Lib.hid hK2
              have HF1 := Lib.hid hst1
              clear c2 hK2 hst1 hq0 e0
              generalize gm (O.getD x 0) (j + 1) = gg at *
              generalize O.getD x 0 = oo at *
              generalize pmF O (j + 1) x x = f0 at *
              generalize pmG O (j + 1) x x = f1 at *
              generalize pmF O (j + 1) x (x + 1) = f2 at *
              generalize pmF O (j + 1) (x + 1) (x + 1) = f3 at *
              go_wp2
              have hst1 := HF1.out
              have hbg : Below wi.heap.size wf (wf.setCell ⟨wi.heap.size, x + 1, none⟩ (.int .i64 (f3 : Nat))) := (Below.refl _ wf).setCell (p := ⟨wi.heap.size, x + 1, none⟩) (Nat.le_refl _) _
              clear HF1 e2 hF hc1 hf1 hco
              generalize (wf.setCell ⟨wi.heap.size, x + 1, none⟩ (.int .i64 (f3 : Nat))) = wg at *
              obtain ⟨hc2, hf2, hst2, _⟩ := HK2.out wg hst1
              have hsg := hbg.size
              have hbg2 := ((hbf.trans (hbg.mono (Nat.le_refl _))).setCell (p := ⟨wi.heap.size, x, none⟩) (Nat.le_refl _) (.int .i64 (f1 : Nat))).drew
              have HG2 := Lib.hid hst2.drew
              have e0 := HE0.out
              clear hst1 hst2 hbg
              go_region_with (go_at_call 54; refine (c3 _).mono ?_; rintro e w4 ⟨rfl, rfl⟩)
              all_goals
                clear e0
                try rw [e1]
                go_wp2
                go_roundw
                case rel => exact ⟨x + 1, by omega, by go_num, HG2.out, hbg2, by simp; omega⟩
                case measure => simp [intOf]; omega
            · obtain rfl : m = x := by omega
              have i3 : ¬ (m : Int) < (m : Int) := by omega
              have hF2 := hF.low (B := wo.heap.size) hsz
              rw [pmL_full O (j + 1) m (by omega) HOM.out] at hF2
              have HF2 := Lib.hid hF2
              have hbw := hbi.trans (hbf.mono hsz)
              clear c2 hF hF2
              go_wp2
              go_roundw
              case rel => exact ⟨t + 1, wi.heap.size, m + 1, by omega, by go_num, by rw [hm], by rw [hm, HN2.out]; exact HF2.out, hbw⟩
              case measure => simp [intOf]; omega
        · obtain rfl : q = t := by omega
          have i2 : ¬ (q : Int) < (q : Int) := by omega
          have hz16 := zeP_16 (ps := P.take q) (fun y hy => HOK.out y (List.mem_of_mem_take hy))
          have hzl := hO.reads.nat_len
          generalize zeP (P.take q) = z at *
          obtain ⟨ad2, v2, e, _, hv2, hcv⟩ := (HH1.out.below hbi).int_at (k := i) (by omega)
          injection e with e
          subst e
          have hv2D : l.getD i 0 = v2 := by rw [List.getD_eq_getElem?_getD, hv2]; rfl
          obtain rfl : v2 = v := by rw [← hv2D, HZ0.out]
          have hOWi := HOWN.out.below hbi (Nat.le_refl _)
          have hh1 := horn_lt (x := i + 1) (by omega) HHS.out
          have hh2 := horn_lt (x := i + 1) (by omega) hz16
          have hxv := xor_lt16 hv16 hh1
          have ex := i64_xor_nat _ _ (show v < 9223372036854775808 by omega) (show horn (i + 1) s0 < 9223372036854775808 by omega)
          have cV1 : ∀ nn, Calls Try.prog 55 #[.slice A5 q c5, .int .i64 ((i : Int) + 1)] (wi.drewN nn) (Ret (wi.drewN nn) (.int .i64 (horn (i + 1) s0 : Nat))) := fun nn => ref_Value A5 q c5 s0 (i + 1) (wi.drewN nn) (hOWi.reads.drewN nn) (by omega) HHS.out (by omega)
          have cV2 : ∀ nn, Calls Try.prog 55 #[.slice (some ⟨g8, 0, none⟩) (q + 1) c8, .int .i64 ((i : Int) + 1)] (wi.drewN nn) (Ret (wi.drewN nn) (.int .i64 (horn (i + 1) z : Nat))) := fun nn => ref_Value (some ⟨g8, 0, none⟩) (q + 1) c8 z (i + 1) (wi.drewN nn) (hO.reads.drewN nn) (by omega) hz16 (by omega)
          have cI := fun W => ref_Inv (horn (i + 1) z) W hh2 HZN.out
          have cM := fun W => ref_Mul (v ^^^ horn (i + 1) s0) (gp (horn (i + 1) z) 14) W hxv (gp_lt hh2 14)
          have hm16 := gm_lt hxv (gp_lt hh2 14)
          have HZ16 := Lib.hid hz16
          have HZL := Lib.hid hzl
          have HOWi := Lib.hid hOWi
          clear hz16 hzl hv2 hv2D hOWi HZN hO hxv
          generalize gm (v ^^^ horn (i + 1) s0) (gp (horn (i + 1) z) 14) = mm at *
          generalize v ^^^ horn (i + 1) s0 = xv at *
          generalize gp (horn (i + 1) z) 14 = gi at *
          generalize horn (i + 1) s0 = h1 at *
          generalize horn (i + 1) z = h2 at *
          have hvs : vn .i64 s0 ++ [Value.int .i64 0] = vn .i64 (s0 ++ [0]) := by simp [vn]
          have hl0 : (s0 ++ [0]).length = q + 1 := by simp [HSL.out]
          have h016 : all16 (s0 ++ [0]) := by
            intro y hy
            rcases List.mem_append.1 hy with hy | hy
            · exact HHS.out y hy
            · rw [List.mem_singleton.1 hy]; omega
          generalize hL0 : s0 ++ [0] = L0 at *
          have HVS := Lib.hid hvs
          have HL0 := Lib.hid hl0
          have H016 := Lib.hid h016
          have HSR : Hid ((List.range (q + 1)).map (smF L0 z mm 0) = L0) := by unfold Hid; have := smF_zero L0 z mm; rw [hl0] at this; exact this
          have HSF : Hid ((List.range (q + 1)).map (smF L0 z mm (q + 1)) = addP L0 (sclP mm z)) := by unfold Hid; have := smF_full L0 z mm (by rw [hl0, HZL.out]); rw [hl0] at this; exact this
          clear hvs hl0 h016 hL0 hh1 hh2
          have hBw : w.heap.size ≤ wi.heap.size := Nat.le_trans hbel.size hsz
          have e0 : IntKind.i64.wrap ((i : Int) + 1) = (i : Int) + 1 := IntWalk.i64_in _ (by omega)
          go_wp2
          go_quiet (first | (go_at_call_of 55 (Value.slice A5 q c5); exact quietR (cV1 _)) | (go_at_call 55; exact quietR (cV2 _)) | (go_at_call 56; exact quietR (cI _)) | (go_at_call 54; exact quietR (cM _)))
          clear e0 cV1 cV2 cI cM ex
          go_wp2_with (at_builtin; refine app1 el_intP rfl _ _ rfl rfl (HOWi.out.drewN nq) _ _ rfl (by rfl) (by simp [vn, HSL.out]; unfold maxLen; omega) (by simp [vn, HSL.out]; omega) hBw ?_; intro v6 w5 ho6 hb6 hg6 hat6; rw [HVS.out] at ho6; obtain ⟨A6, c6, e6⟩ := ho6.form; rw [show (vn .i64 L0).length = q + 1 by simp [vn, HL0.out]] at e6; subst e6; obtain ⟨ad6, rfl⟩ := ho6.reads.addr (by omega); obtain ⟨g6, rfl, hl6, hr6⟩ := ho6.addr)
          have hat6 : (Value.slice (some ⟨g6, 0, none⟩) (q + 1) c6).ownBlock = (Value.slice A5 q c5).ownBlock ∨ (Value.slice (some ⟨g6, 0, none⟩) (q + 1) c6).ownBlock = some (wi.heap.size + 1) := hat6
          have hg6 : (wi.drewN nq).grownBy w5 (Value.slice A5 q c5).ownBlock := hg6
          have h6ne : g6 ≠ g8 := by
            have hg8 := HG8.out
            rcases hat6 with e | e
            · have hlt5 := HOWN.out.lt g6 (by rw [← e]; rfl)
              omega
            · have e2 : g6 = wi.heap.size + 1 := Option.some.inj e
              omega
          have hz5 := (HO.out.drewN nq).kept hg6 (.inr (by
            intro e
            have hlt5 := HOWN.out.lt g8 (by rw [← e]; rfl)
            have hg8 := HG8.out
            omega))
          have HZ5 := Lib.hid hz5
          have HB6 := Lib.hid (hbel.trans ((hbi.mono hbel.size).trans (below_fromDrewN hb6)))
          have HO6 := Lib.hid ho6
          clear hz5 hg6 hat6 ho6 hb6 hcv hci
          go_wp2
          go_loopw [90] (fun v82 wf => ∃ x : Nat, x ≤ q + 1 ∧ v82 = .int .i64 x ∧ Own wf w.heap.size 3 (.slice (some ⟨g6, 0, none⟩) (q + 1) c6) (vn .i64 ((List.range (q + 1)).map (smF L0 z mm x))) ∧ w5.grownBy wf (some g6)) (fun i _ => q + 1 - (intOf i).toNat)
          case atStart => exact ⟨0, by omega, rfl, by rw [HSR.out]; exact HO6.out, World.grownBy.refl _ _⟩
          case round =>
            obtain ⟨x, hx, rfl, hF, hgf⟩ := hrel
            obtain ⟨wf, rfl⟩ : ∃ x, x = wr := ⟨_, rfl⟩
            by_cases hxl : x < q + 1
            · have i3 : (x : Int) < (q : Int) + 1 := by omega
              obtain ⟨hc1, hf1, hst1, _⟩ := own_nat hF (i := x) (by omega) (smF L0 z mm (x + 1) x)
              rw [smF_step] at hst1
              rw [getD_map_range _ (by omega)] at hc1
              have hO2 := HZ5.out.kept hgf (.inr (by intro e; have e2 : g8 = g6 := Option.some.inj e; omega))
              obtain ⟨hco, _, _, _⟩ := own_nat hO2 (i := x) hxl 0
              have hq1 : smF L0 z mm x x < 16 := smF_16 H016.out HZ16.out hm16 _ _
              have hq2 := gm_lt (getD_16 HZ16.out x) hm16
              have e1 := i64_xor_nat _ _ (show smF L0 z mm x x < 9223372036854775808 by omega) (show gm (z.getD x 0) mm < 9223372036854775808 by omega)
              rw [sm_x] at e1
              have c3 := fun W => ref_Mul (z.getD x 0) mm W (getD_16 HZ16.out x) hm16
              have HF1 := Lib.hid hst1
              clear hst1 hO2
              generalize gm (z.getD x 0) mm = gg at *
              generalize z.getD x 0 = oo at *
              generalize smF L0 z mm x x = f0 at *
              generalize smF L0 z mm (x + 1) x = f1 at *
              go_wp2
              go_region_with (go_at_call 54; refine (c3 _).mono ?_; rintro e w4 ⟨rfl, rfl⟩)
              all_goals
                have hst1 := HF1.out.drew
                have hgg : w5.grownBy (wf.setCell ⟨g6, x, none⟩ (.int .i64 (f1 : Nat))).drew (some g6) := hgf.trans (grown_drewP (grown_setCellP wf ⟨g6, x, none⟩ _))
                try rw [e1]
                clear HF1 e1 hF hc1 hf1 hco hgf
                generalize (wf.setCell ⟨g6, x, none⟩ (.int .i64 (f1 : Nat))).drew = wg at *
                go_wp2
                go_roundw
                case rel => exact ⟨x + 1, by omega, by go_num, hst1, hgg⟩
                case measure => simp [intOf]; omega
            · obtain rfl : q + 1 = x := by omega
              have i3 : ¬ (q : Int) + 1 < (q : Int) + 1 := by omega
              rw [HSF.out] at hF
              have hbf : Below w.heap.size w5 wf := grown_below hgf (by omega) (fun j hj => by injection hj with hj; omega)
              have hbw := HB6.out.trans hbf
              go_wp2
              go_roundw
              case rel => exact ⟨q + 1, by omega, by go_num, by rw [HN.out]; exact hF, hbw⟩
              case measure => simp [intOf]; omega
    · obtain rfl : np = q := by omega
      have i1 : ¬ (np : Int) < (np : Int) := by omega
      clear hown
      go_wp2
      go_ret
      exact ⟨_, _, _, rfl, HOWN.out, hbel⟩
end Go.Proofs.Ytpbffbhebdcpbaa

/-
  points.through: each place's own, summed up.
-/
import Derived.Test.YtpbffbhebdcpbaaPts
import Derived.Test.YtpbffbhebdcpbaaField
import Derived.Test.YtpbffbhebdcpbaaStep
import Derived.IntWalk
import Derived.Deep.RegionWith
set_option linter.unusedVariables false
namespace Go.Proofs.Ytpbffbhebdcpbaa
open Go.RowKit

theorem getD_map_range (f : Nat → Nat) {i m : Nat} (h : i < m) : ((List.range m).map f).getD i 0 = f i := by
  rw [List.getD_eq_getElem?_getD, List.getElem?_map, List.getElem?_range h]; rfl
theorem pm_x1 (O : List Nat) (c x : Nat) : pmF O c x x ^^^ gm (O.getD x 0) c = pmG O c x x := by
  unfold pmF pmG
  rw [if_neg (by omega), if_pos (show x < x + 1 by omega), Nat.zero_xor, Nat.xor_comm]
theorem pm_x2 (O : List Nat) (c x : Nat) : pmG O c x (x + 1) ^^^ O.getD x 0 = pmF O c (x + 1) (x + 1) := by
  unfold pmF pmG
  rw [if_neg (by omega), if_neg (by omega), if_pos ⟨by omega, by omega⟩]
  simp
theorem sm_x (s0 O : List Nat) (sc x : Nat) : smF s0 O sc x x ^^^ gm (O.getD x 0) sc = smF s0 O sc (x + 1) x := by
  unfold smF
  rw [if_neg (by omega), if_pos (by omega), Nat.xor_zero]
def lvI (l : List Int) (j : Nat) : Nat := (l.getD j 0).toNat
theorem grown_drewP {w w' : World} {row : Option Nat} (h : w.grownBy w' row) : w.grownBy w'.drew row := ⟨h.os, h.tape, h.output, h.size, h.block⟩
theorem vn_rep (n : Nat) : List.replicate n (Value.int .i64 0) = vn .i64 (List.replicate n 0) := by simp [vn]
theorem fold_in {α β : Type} {p : β → Prop} (f : β → α → β) : ∀ (l : List α) (b : β), p b → (∀ b x, x ∈ l → p b → p (f b x)) → p (l.foldl f b)
  | [], b, h, _ => h
  | x :: l, b, h, hs => fold_in f l (f b x) (hs b x (List.mem_cons_self ..) h) (fun b y hy => hs b y (List.mem_cons_of_mem _ hy))
/-- the summed slots, one more -/
theorem lag_nextP (lv : Nat → Nat) (P : List Nat) {q i : Nat} (h : P[q]? = some i) (s0 : List Nat) : (P.take (q + 1)).foldl (lagStep lv P) s0 = lagStep lv P ((P.take q).foldl (lagStep lv P) s0) i := foldl_next _ _ h

set_option maxRecDepth 100000 in
set_option maxHeartbeats 4000000 in
theorem points_through (A Ap : Option Addr) (n np c cp : Nat) (l : List Int) (P : List Nat) (w : World) (h : Reads w w.heap.size A n (vi .i64 l)) (hp : Reads w w.heap.size Ap np (vn .i64 P)) (hn : n ≤ 9) (hnp : np ≤ 9) (hP : ∀ j ∈ P, j < n) (hnd : P.Nodup) (hl : ∀ j ∈ P, 0 ≤ l.getD j 0 ∧ l.getD j 0 < 16) :
    Calls Try.prog 32 #[.slice A n c, .slice Ap np cp] w (RetS w 3 (vn .i64 (lagL (lvI l) P P))) := by
  have hPl : P.length = np := hp.nat_len
  have hl2 : ∀ j ∈ P, lvI l j < 16 := fun j hj => by have := hl j hj; unfold lvI; omega
  have hok : okPs P := fun j hj => by have := hP j hj; omega
  have hS := fun (q : Nat) => lag_props (lv := lvI l) hok hl2 hnd (P.take q) (List.replicate P.length 0) (fun j hj => List.mem_of_mem_take hj) (by intro y hy; rw [(List.mem_replicate.1 hy).2]; omega) (by simp)
  have HPL := Lib.hid hPl
  have HP := Lib.hid hP
  have HL := Lib.hid hl
  have HOK := Lib.hid hok
  have HS := Lib.hid hS
  clear hPl hl2 hP hl hok hS
  go_enter Try.func32, Try.ntmps32
  go_wp2_with (at_make; refine mkN el_intP rfl _ _ rfl w.heap.size np rfl rfl rfl rfl (by omega) (by unfold maxLen; omega) (Nat.le_refl _) ?_; intro w1 ho1 hb1 hs1)
  rw [vn_rep] at ho1
  go_loopw [22] (fun i wr => ∃ q : Nat, q ≤ np ∧ i = .int .i64 q ∧ Own wr w.heap.size 3 (.slice (some ⟨w.heap.size, 0, none⟩) np np) (vn .i64 ((P.take q).foldl (lagStep (lvI l) P) (List.replicate P.length 0))) ∧ Below w.heap.size w wr ∧ w.heap.size < wr.heap.size) (fun i _ => np - (intOf i).toNat)
  case atStart => exact ⟨0, by omega, rfl, by rw [HPL.out]; exact ho1, hb1, hs1⟩
  case round =>
    obtain ⟨q, hq, rfl, hown, hbel, hszB⟩ := hrel
    obtain ⟨wo, rfl⟩ : ∃ x, x = wr := ⟨_, rfl⟩
    have HOWN := Lib.hid hown
    clear ho1 hb1 hs1
    by_cases hlt : q < np
    · have i1 : (q : Int) < (np : Int) := by omega
      have hp1 := hp.below hbel
      obtain ⟨adp, i, e, _, hi, hci⟩ := hp1.nat_at (k := q) (by omega)
      subst e
      have hiP := mem_at hi
      have hin := HP.out i hiP
      have hi9 : i < 9 := by omega
      have h1 := h.below hbel
      obtain ⟨ad, z0, e, _, hv, hcv⟩ := h1.int_at (k := i) (by omega)
      subst e
      have hz0 : l.getD i 0 = z0 := by rw [List.getD_eq_getElem?_getD, hv]; rfl
      have hzb := HL.out i hiP
      rw [hz0] at hzb
      obtain ⟨v, rfl⟩ : ∃ v : Nat, z0 = v := ⟨z0.toNat, by omega⟩
      have hvD : lvI l i = v := by unfold lvI; rw [hz0]; rfl
      have hv16 : v < 16 := by omega
      clear hzb
      have HZ0 := Lib.hid hz0
      clear hz0
      have j1 : (i : Int) < (n : Int) := by omega
      have HN := Lib.hid (lag_nextP (lvI l) P hi (List.replicate P.length 0))
      obtain ⟨hs16, hsl, _⟩ := HS.out q
      generalize hs0 : (P.take q).foldl (lagStep (lvI l) P) (List.replicate P.length 0) = s0 at *
      have HHS := Lib.hid hs16
      have HSL := Lib.hid hsl
      have HVD := Lib.hid hvD
      clear hi hv hs16 hsl hown hs0
      have HIP := Lib.hid hiP
      have HP1 := Lib.hid (hp1.more hbel.size)
      have hcvA : (wo.alloc (.cells #[.int .i64 1] 3)).cell? (ad.add i) = some (.int .i64 (v : Int)) := by
        obtain ⟨ad2, v2, e, _, hv2, hcv2⟩ := (h1.alloc hbel.size (.cells #[.int .i64 1] 3)).int_at (k := i) (by omega)
        injection e with e; subst e
        rw [hcv2]
        have hz := HZ0.out
        rw [List.getD_eq_getElem?_getD, hv2] at hz
        rw [← hz]; rfl
      have HB1 : Hid (Below wo.heap.size wo (wo.alloc (.cells #[.int .i64 1] 3))) := (Below.refl _ wo).alloc (Nat.le_refl _) _
      have HOB : Hid (Own (wo.alloc (.cells #[.int .i64 1] 3)) wo.heap.size 3 (.slice (some ⟨wo.heap.size, 0, none⟩) 1 1) (vn .i64 [1])) := Own.built wo #[.int .i64 1] 1 rfl (by unfold maxLen; omega) (Nat.le_refl _)
      clear h1 hp1 hvD hiP
      go_wp2
      go_loopw [8, 9, 33] (fun v8 v9 v33 wi => ∃ t g8 m c8 : Nat, t ≤ np ∧ v33 = .int .i64 t ∧ v9 = .int .i64 ((P.take t).foldl (sclStep i) v : Nat) ∧ v8 = .slice (some ⟨g8, 0, none⟩) m c8 ∧ Own wi wo.heap.size 3 (.slice (some ⟨g8, 0, none⟩) m c8) (vn .i64 ((P.take t).foldl (ownStep i) [1])) ∧ Below wo.heap.size wo wi) (fun _ _ i _ => np - (intOf i).toNat)
      case atStart => exact ⟨0, wo.heap.size, 1, 1, by omega, rfl, rfl, rfl, HOB.out, HB1.out⟩
      case round =>
        obtain ⟨t, g8, m, c8, ht, rfl, rfl, rfl, hO, hbi⟩ := hrel
        obtain ⟨wi, rfl⟩ : ∃ x, x = wr := ⟨_, rfl⟩
        clear HB1 HOB
        have HO := Lib.hid hO
        have HG8 : Hid (wo.heap.size ≤ g8) := (hO.lt g8 rfl).1
        have hsz := hbi.size
        by_cases htl : t < np
        · have i2 : (t : Int) < (np : Int) := by omega
          have hp2 := HP1.out.below hbi
          obtain ⟨adp2, j, e, _, hj, hcj⟩ := hp2.nat_at (k := t) (by omega)
          injection e with e
          subst e
          have hjP := mem_at hj
          have hjn := HP.out j hjP
          have hj9 : j < 9 := by omega
          have HN1 := Lib.hid (foldl_next (sclStep i) v hj)
          have HN2 := Lib.hid (foldl_next (ownStep i) [1] hj)
          have hs16 := scl_lt i hi9 (P.take t) v (fun y hy => HOK.out y (List.mem_of_mem_take hy)) hv16
          have ho16 := own_16 i (P.take t) [1] (fun y hy => HOK.out y (List.mem_of_mem_take hy)) one16
          have hoL := own_len i (P.take t) [1]
          have hom := hO.reads.nat_len
          have hm10 : m ≤ 10 := by
            rw [hom, List.length_singleton] at hoL
            have := List.length_filter_le (fun j => decide (j ≠ i)) (P.take t)
            rw [List.length_take] at this
            omega
          generalize hO1 : (P.take t).foldl (ownStep i) [1] = O at *
          generalize hs1 : (P.take t).foldl (sclStep i) v = s at *
          have HO16 := Lib.hid ho16
          have HOM := Lib.hid hom
          clear hj hjP hO1 hs1 ho16 hoL hom hp2
          by_cases hji : j = i
          · subst hji
            have HN1' : Hid (sclStep j s j = s) := if_pos rfl
            have HN2' : Hid (ownStep j O j = O) := if_pos rfl
            go_wp2
            go_roundw
            case rel => exact ⟨t + 1, g8, m, c8, by omega, by go_num, by rw [HN1.out, HN1'.out], rfl, by rw [HN2.out, HN2'.out]; exact HO.out, hbi⟩
            case measure => simp [intOf]; omega
          · have HN1' : Hid (sclStep i s j = gm s (gp ((i + 1) ^^^ (j + 1)) 14)) := if_neg hji
            have HN2' : Hid (ownStep i O j = mulP (j + 1) O) := if_neg hji
            have b1 : ((j : Int) == (i : Int)) = false := by simp; omega
            have ex := i64_xor_nat (i + 1) (j + 1) (by omega) (by omega)
            have hx16 := xor_lt16 (a := i + 1) (b := j + 1) (by omega) (by omega)
            generalize (i + 1) ^^^ (j + 1) = xx at *
            have cP := fun W => field_Power xx 14 W hx16 (by omega)
            have hg16 := gp_lt hx16 14
            generalize gp xx 14 = pp at *
            have cT := fun W => field_Times s pp W hs16 hg16
            generalize hgs : gm s pp = s2 at *
            push_cast at ex
            clear hji
            have c2 := fun (x : Nat) W => field_Times (O.getD x 0) (j + 1) W (getD_16 HO16.out x) (by omega)
            go_wp2_with (at_make; refine mkN el_intP rfl _ _ rfl wi.heap.size (m + 1) rfl rfl rfl rfl (by omega) (by unfold maxLen; omega) (Nat.le_refl _) ?_; intro w3 ho3 hb3 hs3)
            rw [vn_rep, ← pmL_zero O (j + 1)] at ho3
            go_loopw [46] (fun v46 wf => ∃ x : Nat, x ≤ m ∧ v46 = .int .i64 x ∧ Own wf wi.heap.size 3 (.slice (some ⟨wi.heap.size, 0, none⟩) (m + 1) (m + 1)) (vn .i64 (pmL O (j + 1) x (m + 1))) ∧ Below wi.heap.size wi wf ∧ wi.heap.size < wf.heap.size) (fun i _ => m - (intOf i).toNat)
            case atStart => exact ⟨0, by omega, rfl, ho3, hb3, hs3⟩
            case round =>
              obtain ⟨x, hx, rfl, hF, hbf, hsf⟩ := hrel
              obtain ⟨wf, rfl⟩ : ∃ x, x = wr := ⟨_, rfl⟩
              clear ho3 hb3 hs3
              by_cases hxl : x < m
              · have i3 : (x : Int) < (m : Int) := by omega
                have i4 : (x : Int) < ((m : Int) + 1) := by omega
                have i5 : (x : Int) + 1 < ((m : Int) + 1) := by omega
                have c2 := c2 x
                obtain ⟨hc1, hf1, hst1, _⟩ := own_nat hF (i := x) (by omega) (pmG O (j + 1) x x)
                rw [pmG_step] at hst1
                have hK2 := fun (wg : World) (ho : Own wg wi.heap.size 3 (.slice (some ⟨wi.heap.size, 0, none⟩) (m + 1) (m + 1)) (vn .i64 ((List.range (m + 1)).map (pmG O (j + 1) x)))) => own_nat ho (i := x + 1) (by omega) (pmF O (j + 1) (x + 1) (x + 1))
                simp only [pmF_step, getD_map_range (pmG O (j + 1) x) (show x + 1 < m + 1 by omega)] at hK2
                rw [show (pmL O (j + 1) x (m + 1)).getD x 0 = pmF O (j + 1) x x from getD_map_range _ (by omega)] at hc1
                obtain ⟨hco, _, _, _⟩ := own_nat (HO.out.below hbf (Nat.le_refl _)) (i := x) hxl 0
                have hq1 : pmF O (j + 1) x x < 16 := pmF_16 HO16.out (by omega) _ _
                have hq2 := gm_lt (getD_16 HO16.out x) (show j + 1 < 16 by omega)
                have hq3 : pmG O (j + 1) x (x + 1) < 16 := pmG_16 HO16.out (by omega) _ _
                have hq4 := getD_16 HO16.out x
                have e1 := i64_xor_nat _ _ (show pmF O (j + 1) x x < 9223372036854775808 by omega) (show gm (O.getD x 0) (j + 1) < 9223372036854775808 by omega)
                have e2 := i64_xor_nat _ _ (show pmG O (j + 1) x (x + 1) < 9223372036854775808 by omega) (show O.getD x 0 < 9223372036854775808 by omega)
                rw [pm_x1] at e1
                rw [pm_x2] at e2
                have e0 : IntKind.i64.wrap ((j : Int) + 1) = (j : Int) + 1 := IntWalk.i64_in _ (by omega)
                have c3 : ∀ W, Calls Try.prog 51 #[.int .i64 (O.getD x 0 : Nat), .int .i64 ((j : Int) + 1)] W (Ret W (.int .i64 (gm (O.getD x 0) (j + 1) : Nat))) := c2
                have HK2 := Lib.hid hK2
                have HF1 := Lib.hid hst1
                clear c2 hK2 hst1
                generalize gm (O.getD x 0) (j + 1) = gg at *
                generalize O.getD x 0 = oo at *
                generalize pmF O (j + 1) x x = f0 at *
                generalize pmG O (j + 1) x x = f1 at *
                generalize pmG O (j + 1) x (x + 1) = f2 at *
                generalize pmF O (j + 1) (x + 1) (x + 1) = f3 at *
                go_wp2
                go_region_with (go_at_call 51; refine (c3 _).mono ?_; rintro e w4 ⟨rfl, rfl⟩)
                all_goals
                  have hst1 := HF1.out.drew
                  have hbg : Below wi.heap.size wf (wf.setCell ⟨wi.heap.size, x, none⟩ (.int .i64 (f1 : Nat))).drew := ((Below.refl _ wf).setCell (p := ⟨wi.heap.size, x, none⟩) (Nat.le_refl _) _).drew
                  try rw [e1]
                  clear HF1 e1 hF hc1 hf1 hco e0
                  generalize (wf.setCell ⟨wi.heap.size, x, none⟩ (.int .i64 (f1 : Nat))).drew = wg at *
                  obtain ⟨hc2, hf2, hst2, _⟩ := HK2.out wg hst1
                  have hsg := hbg.size
                  have hbg2 := (hbf.trans (hbg.mono (Nat.le_refl _))).setCell (p := ⟨wi.heap.size, x + 1, none⟩) (Nat.le_refl _) (.int .i64 (f3 : Nat))
                  go_wp2
                  go_roundw
                  case rel => exact ⟨x + 1, by omega, by go_num, hst2, hbg2, by simp; omega⟩
                  case measure => simp [intOf]; omega
              · obtain rfl : m = x := by omega
                have i3 : ¬ (m : Int) < (m : Int) := by omega
                have hF2 := hF.low (B := wo.heap.size) hsz
                rw [pmL_full O (j + 1) m (by omega) HOM.out] at hF2
                have HF2 := Lib.hid hF2
                have hbw := hbi.trans (hbf.mono hsz)
                have cP2 : ∀ W, Calls Try.prog 52 #[.int .i64 (xx : Nat), .int .i64 14] W (Ret W (.int .i64 (pp : Nat))) := cP
                clear c2 hF hF2 hO cP
                go_wp2_with (first | (go_at_call 52; refine (cP2 _).mono ?_; rintro e w4 ⟨rfl, rfl⟩) | (go_at_call 51; refine (cT _).mono ?_; rintro e w4 ⟨rfl, rfl⟩))
                go_roundw
                case rel => exact ⟨t + 1, wi.heap.size, m + 1, m + 1, by omega, by go_num, by rw [HN1.out, HN1'.out], rfl, by rw [HN2.out, HN2'.out]; exact HF2.out, hbw⟩
                case measure => simp [intOf]; omega
        · obtain rfl : np = t := by omega
          have i2 : ¬ (np : Int) < (np : Int) := by omega
          have hall : P.take np = P := by rw [← HPL.out]; exact List.take_length
          rw [hall] at hO HO ⊢
          have hs16 := scl_lt i hi9 P v HOK.out hv16
          have ho16 := own_16 i P [1] HOK.out one16
          have hoL := ownL_len hnd (HIP.out)
          have HN1 : Hid ((P.take (q + 1)).foldl (lagStep (lvI l) P) (List.replicate P.length 0) = addP s0 (sclP (P.foldl (sclStep i) v) (P.foldl (ownStep i) [1]))) := by
            unfold Hid; rw [HN.out]; unfold lagStep sclL ownL; simp only [HVD.out]
          unfold ownL at hoL
          generalize P.foldl (ownStep i) [1] = O at *
          generalize P.foldl (sclStep i) v = s at *
          have HO16 := Lib.hid ho16
          have hOm := hO.reads.nat_len
          rw [hoL, HPL.out] at hOm
          subst hOm
          have HS2 := Lib.hid (HOWN.out.below hbi (Nat.le_refl _))
          have HSR : Hid ((List.range np).map (smF s0 O s 0) = s0) := by unfold Hid; have := smF_zero s0 O s; rw [HSL.out, HPL.out] at this; exact this
          have HSF : Hid ((List.range np).map (smF s0 O s np) = addP s0 (sclP s O)) := by unfold Hid; have := smF_full s0 O s (by rw [HSL.out, hoL]); rw [HSL.out, HPL.out] at this; exact this
          clear hO HN
          go_wp2
          go_loopw [82] (fun v82 wf => ∃ x : Nat, x ≤ np ∧ v82 = .int .i64 x ∧ Own wf w.heap.size 3 (.slice (some ⟨w.heap.size, 0, none⟩) np np) (vn .i64 ((List.range np).map (smF s0 O s x))) ∧ wi.grownBy wf (some w.heap.size)) (fun i _ => np - (intOf i).toNat)
          case atStart => exact ⟨0, by omega, rfl, by rw [HSR.out]; exact HS2.out, World.grownBy.refl _ _⟩
          case round =>
            obtain ⟨x, hx, rfl, hF, hgf⟩ := hrel
            obtain ⟨wf, rfl⟩ : ∃ x, x = wr := ⟨_, rfl⟩
            have hbf : Below w.heap.size wi wf := grown_below hgf (by omega) (fun j hj => by injection hj with hj; omega)
            by_cases hxl : x < np
            · have i3 : (x : Int) < (np : Int) := by omega
              obtain ⟨hc1, hf1, hst1, _⟩ := own_nat hF (i := x) (by omega) (smF s0 O s (x + 1) x)
              rw [smF_step] at hst1
              rw [getD_map_range _ (by omega)] at hc1
              have hO2 := HO.out.kept hgf (.inr (by intro e; have e2 : g8 = w.heap.size := Option.some.inj e; have := HG8.out; omega))
              obtain ⟨hco, _, _, _⟩ := own_nat hO2 (i := x) hxl 0
              have hq1 : smF s0 O s x x < 16 := smF_16 HHS.out HO16.out hs16 _ _
              have hq2 := gm_lt (getD_16 HO16.out x) hs16
              have e1 := i64_xor_nat _ _ (show smF s0 O s x x < 9223372036854775808 by omega) (show gm (O.getD x 0) s < 9223372036854775808 by omega)
              rw [sm_x] at e1
              have c3 := fun W => field_Times (O.getD x 0) s W (getD_16 HO16.out x) hs16
              have HF1 := Lib.hid hst1
              clear hst1 hO2
              generalize gm (O.getD x 0) s = gg at *
              generalize O.getD x 0 = oo at *
              generalize smF s0 O s x x = f0 at *
              generalize smF s0 O s (x + 1) x = f1 at *
              go_wp2
              go_region_with (go_at_call 51; refine (c3 _).mono ?_; rintro e w4 ⟨rfl, rfl⟩)
              all_goals
                have hst1 := HF1.out.drew
                have hgg : wi.grownBy (wf.setCell ⟨w.heap.size, x, none⟩ (.int .i64 (f1 : Nat))).drew (some w.heap.size) := hgf.trans (grown_drewP (grown_setCellP wf ⟨w.heap.size, x, none⟩ _))
                try rw [e1]
                clear HF1 e1 hF hc1 hf1 hco hgf hbf
                generalize (wf.setCell ⟨w.heap.size, x, none⟩ (.int .i64 (f1 : Nat))).drew = wg at *
                go_wp2
                go_roundw
                case rel => exact ⟨x + 1, by omega, by go_num, hst1, hgg⟩
                case measure => simp [intOf]; omega
            · obtain rfl : np = x := by omega
              have i3 : ¬ (np : Int) < (np : Int) := by omega
              rw [HSF.out] at hF
              have hbw := hbel.trans ((hbi.mono (Nat.le_of_lt hszB)).trans hbf)
              have hsw := hbf.size
              go_wp2
              go_roundw
              case rel => exact ⟨q + 1, by omega, by go_num, by rw [HN1.out]; exact hF, hbw, by omega⟩
              case measure => simp [intOf]; omega
    · obtain rfl : np = q := by omega
      have i1 : ¬ (np : Int) < (np : Int) := by omega
      have hall : P.take np = P := by rw [← HPL.out]; exact List.take_length
      rw [hall] at HOWN
      clear hown
      go_wp2
      go_ret
      exact ⟨_, _, _, rfl, HOWN.out, hbel⟩
end Go.Proofs.Ytpbffbhebdcpbaa

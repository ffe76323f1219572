import Derived.Test.YtmepiiheidmbgaaSplitl
import Derived.Test.YtmepiiheidmbgaaLists
import Derived.Test.YtmepiiheidmbgaaEqBools
import Derived.Deep.RegionLaw
set_option linter.unusedVariables false
namespace Go.Proofs.Ytmepiiheidmbgaa
open Go.RowKit

theorem Reads.takeP {w : World} {B n k : Nat} {A : Option Addr} {l : List Bool} (h : Reads w B A n (vb l)) (hk : k ≤ n) : Reads w B A k (vb (l.take k)) := by
  have := h.take hk
  rwa [← List.map_take] at this
set_option maxHeartbeats 800000 in
theorem stuff_begins (A : Option Addr) (n c : Nat) (l : List Bool) (w : World) (h : Reads w w.heap.size A n (vb l)) (hc : n ≤ c) (b : Bool) (hb : Hid (atF l = b)) :
    Calls Try.prog 55 #[.slice A n c] w (RetB w (.bool b)) := by
  have H := h.bool_len
  by_cases h8 : 8 ≤ n
  · have j1 : (8 : Int) ≤ (n : Int) := by omega
    have j2 : (8 : Int) ≤ (c : Int) := by omega
    have j3 : decide ((8 : Int) ≤ (n : Int)) = true := decide_eq_true j1
    obtain ⟨ad, rfl, _⟩ := h.cells (by omega)
    have cf := fun (W : World) => stuff_flag W
    have hR := (h.takeP h8).drew
    clear H
    go_enter Try.func55, Try.ntmps55
    go_wp2
    go_region_law (first
      | (go_simp; go_at_call 50; refine (cf _).mono ?_; clear cf; rintro e w1 ⟨A1, n1, k1, rfl, ho1, hb1⟩)
      | (go_simp; go_at_call 80; refine (equal_bools _ _ _ _ _ _ _ _ b _ (hR.below hb1) ho1.reads (by unfold maxLen; omega) hb).mono ?_; rintro e w2 ⟨rfl, m, rfl⟩))
    all_goals
      go_wp2
      go_ret
      exact ⟨rfl, below_drewN (((Below.refl _ _).drew).trans hb1) _⟩
  · have j1 : ¬ (8 : Int) ≤ (n : Int) := by omega
    have j3 : decide ((8 : Int) ≤ (n : Int)) = false := decide_eq_false j1
    have hf := atF_short (l := l) (by omega)
    go_enter Try.func55, Try.ntmps55
    go_wp2
    go_quiet (fail)
    go_wp2
    go_ret
    rw [← hb.out, hf]
    exact ⟨rfl, below_drewN (Below.refl _ _) _⟩
theorem el_rowsS : Elem Try.prog 22 23 (.slice none 0 0) 24 := Elem.mk' Try.underlying22 (by kernel_rfl) rfl
theorem Own.withinS {w : World} {base : Nat} {E : TypeId} {A : Option Addr} {n c : Nat} {xs : List Value} (h : Own w base E (.slice A n c) xs) : ∀ ad, A = some ad → ad.block < w.heap.size := by
  intro ad e
  subst e
  exact (Own.lt h ad.block rfl).2
theorem Reads.dropP {w : World} {B n k : Nat} {ad : Addr} {l : List Bool} (h : Reads w B (some ad) n (vb l)) (hk : k ≤ n) : Reads w B (some (ad.add k)) (n - k) (vb (l.drop k)) := by
  refine ⟨by rw [List.length_map, List.length_drop]; have := h.len; rw [List.length_map] at this; omega, fun h0 => ?_⟩
  obtain ⟨a, e, hb, hc⟩ := h.cells (by omega)
  injection e with e; subst e
  refine ⟨_, rfl, by rw [block_of_add]; exact hb, fun j u hu => ?_⟩
  rw [add_of_add]
  refine hc _ u ?_
  rw [List.getElem?_map, List.getElem?_drop, ← List.getElem?_map] at hu
  exact hu
def SplP (w : World) (e : Ending) (w' : World) : Option (List (List Bool)) → Prop
  | some T => ∃ A n c, e = .returned (.tuple #[.slice A n c, .int .i64 0]) ∧ OwnR w' w.heap.size 23 (.slice A n c) (T.map vb) ∧ Below w.heap.size w w'
  | none => e = .returned (.tuple #[.slice none 0 0, .int .i64 3]) ∧ Below w.heap.size w w'
theorem splitR_of {l : List Bool} (h : atF l = true) {T : List (List Bool)} (hX : splitX l = some T) : splitR l = if 8 < T.length then none else some T := by
  unfold splitR; rw [if_pos h, hX]; rfl
theorem splitR_no {l : List Bool} (h : atF l = true) (hX : splitX l = none) : splitR l = none := by
  unfold splitR; rw [if_pos h, hX]; rfl
set_option maxRecDepth 100000 in
set_option maxHeartbeats 1000000 in
theorem stuff_Split (A : Option Addr) (n c : Nat) (l : List Bool) (w : World) (h : Reads w w.heap.size A n (vb l)) (hc : n ≤ c) (hn : n ≤ 1000) (R : Option (List (List Bool))) (hR : Hid (splitR l = R)) :
    Calls Try.prog 18 #[.slice A n c] w (fun e w' => SplP w e w' R) := by
  have H := Lib.hid h.bool_len
  have j0 : ¬ (1000 : Int) < (n : Int) := by omega
  cases hb : atF l with
  | false =>
    have cb := stuff_begins A n c l w h hc false hb
    have HRN : Hid (R = none) := by unfold Hid; rw [← hR.out]; unfold splitR; rw [hb]; rfl
    clear hb
    go_enter Try.func18, Try.ntmps18
    go_wp2_with (go_at_call 55; refine cb.mono ?_; clear cb; rintro e w1 ⟨rfl, hb1⟩)
    go_ret2
    rw [HRN.out]
    exact ⟨rfl, hb1⟩
  | true =>
    have cb := stuff_begins A n c l w h hc true hb
    have h8 : 8 ≤ n := by have := atF_len hb; have := H.out; omega
    obtain ⟨ad, rfl, hadb, _⟩ := h.cells (by omega)
    have HAT := Lib.hid hb
    have HX : Hid ((splR (1000 + 1) (l.drop 8)).map (([] : List (List Bool)) ++ ·) = splitX l) := by
      unfold Hid splitX; cases splR (1000 + 1) (l.drop 8) <;> simp
    have j1 : (8 : Int) ≤ (n : Int) := by omega
    have hlen8 : (l.drop 8).length = n - 8 := by rw [List.length_drop, H.out]
    obtain ⟨A0, hA0, hR0⟩ : ∃ A0, A0 = (if c = 8 then some ad else some (ad.add 8)) ∧ Reads w w.heap.size A0 (n - 8) (vb (l.drop 8)) := by
      refine ⟨_, rfl, ?_⟩
      split
      · have h0 : n - 8 = 0 := by omega
        rw [h0] at hlen8 ⊢
        exact ⟨by rw [List.length_map, hlen8], fun h1 => absurd h1 (by omega)⟩
      · exact h.dropP h8
    have hr8 : (l.drop 8).length ≤ 1000 := by omega
    have hr9 : 8 * ([] : List (List Bool)).length + (l.drop 8).length ≤ 1000 := by rw [List.length_nil]; omega
    clear hb hlen8
    by_cases hc8 : c = 8
    · have hn8 : n = 8 := by omega
      have hX : splitX l = some [] := by
        unfold splitX; rw [splR_nil (by rw [List.length_drop, H.out]; omega)]
      have hRR := splitR_of HAT.out hX
      rw [hR.out] at hRR
      have HRR : Hid (R = some []) := by rw [hRR]; rfl
      clear hX hRR HX hA0 hR0 hr8 hr9 hc hn j0 h8
      subst hc8
      subst hn8
      go_enter Try.func18, Try.ntmps18
      go_wp2_with (go_at_call 55; refine cb.mono ?_; clear cb; rintro e w1 ⟨rfl, hb1⟩)
      refine wp_loop_rounds 1 ?_
      rw [rounds_succ]
      go_wp2
      go_ret2
      rw [HRR.out]
      exact ⟨_, _, _, rfl, OwnR.nil _ _ _, hb1⟩
    · rw [if_neg hc8] at hA0
      have HA0 := Lib.hid hA0
      clear hA0
      go_enter Try.func18, Try.ntmps18
      go_wp2_with (go_at_call 55; refine cb.mono ?_; clear cb; rintro e w1 ⟨rfl, hb1⟩)
      go_loopw [0, 4] (fun lv tv wr => ∃ (rest : List Bool) (T : List (List Bool)) (f m k : Nat) (A' : Option Addr), lv = .slice A' m k ∧ m ≤ k ∧ Reads wr w.heap.size A' m (vb rest) ∧ OwnR wr w.heap.size 23 tv (T.map vb) ∧ Below w.heap.size w wr ∧ rest.length ≤ f ∧ 8 * T.length + rest.length ≤ 1000 ∧ Hid ((splR (f + 1) rest).map (T ++ ·) = splitX l)) (fun lv _ _ => slen lv)
      case atStart =>
        refine ⟨l.drop 8, [], 1000, n - 8, c - 8, A0, ?_, by omega, hR0.below hb1, OwnR.nil _ _ _, hb1, hr8, hr9, HX⟩
        rw [HA0.out]
        simp [Addr.add]
      case round =>
        clear hR0 hr8 hr9 HX hb1
        obtain ⟨rest, T, f, m, k, A', rfl, hmk, hrd, hown, hbel, hrf, hT, hst⟩ := hrel
        have hm := hrd.bool_len
        have HM := Lib.hid hm
        by_cases h0 : m = 0
        · subst h0
          have hX : splitX l = some T := by rw [← hst.out, splR_nil hm]; simp
          have hRR := splitR_of HAT.out hX
          rw [hR.out] at hRR
          obtain ⟨TA, tc, te⟩ := hown.form
          rw [List.length_map] at te
          obtain ⟨tn, htn⟩ : ∃ tn, T.length = tn := ⟨_, rfl⟩
          rw [htn] at te hRR hT
          subst te
          have HRR := Lib.hid hRR
          clear hm hX hRR hrd hst htn
          by_cases h9 : 8 < tn
          · have j5 : (8 : Int) < (tn : Int) := by omega
            go_wp2
            go_ret2
            rw [HRR.out, if_pos h9]
            exact ⟨rfl, hbel⟩
          · have j5 : ¬ (8 : Int) < (tn : Int) := by omega
            go_wp2
            go_ret2
            rw [HRR.out, if_neg h9]
            exact ⟨_, _, _, rfl, hown, hbel⟩
        · obtain ⟨f, rfl⟩ : ∃ f', f = f' + 1 := ⟨f - 1, by omega⟩
          have hm0 : rest.length ≠ 0 := by omega
          have j5 : (0 : Int) < (m : Int) := by omega
          have j5n : 0 < m := by omega
          have hfle := ffl_le rest
          obtain ⟨ad2, rfl, had2, _⟩ := hrd.cells (by omega)
          obtain ⟨tn, htn⟩ : ∃ tn, T.length = tn := ⟨_, rfl⟩
          have HTN := Lib.hid htn
          rw [htn] at hT
          have hm1000 : m ≤ 1000 := by omega
          have HF : Hid (ffl rest ≤ m) := by unfold Hid; omega
          have HRF : Hid (rest.length ≤ f + 1) := hrf
          have HT : Hid (8 * tn + rest.length ≤ 1000) := hT
          have HM0 := Lib.hid hm0
          clear hm htn hfle hT hrf hm0
          go_wp2
          go_loopw [5] (fun nv wq => ∃ q : Nat, nv = .int .i64 (q : Int) ∧ q ≤ m ∧ Hid (q ≤ ffl rest) ∧ Below wr.heap.size wr wq) (fun nv _ => m - (intOf nv).toNat)
          case atStart => exact ⟨0, rfl, by omega, Nat.zero_le _, Below.refl _ _⟩
          case round =>
            obtain ⟨q, rfl, hqm, hqf, hbq⟩ := hrel
            have hrd2 := hrd.below (hbq.mono hbel.size)
            have hown2 := hown.below hbq
            have hbel2 := hbel.trans (hbq.mono hbel.size)
            have hbq2 := hbq
            clear hrd hown hbel hbq
            by_cases hlt : q < m
            · have j6 : ((q : Nat) : Int) < (m : Int) := by omega
              have j7 : ¬ k = q := by omega
              have cb2 := fun (b : Bool) (hb : Hid (atF (rest.drop q) = b)) (W : World) (hW : Reads W W.heap.size (some (ad2.add q)) (m - q) (vb (rest.drop q))) => stuff_begins (some (ad2.add q)) (m - q) (k - q) (rest.drop q) W hW (by omega) b hb
              cases hat : atF (rest.drop q) with
              | false =>
                have cb3 := cb2 false hat _ ((hrd2.dropP (by omega)).more hbel2.size)
                have hq2 : Hid (q + 1 ≤ ffl rest) := by
                  unfold Hid
                  rcases Nat.lt_or_ge q (ffl rest) with h1 | h1
                  · exact h1
                  · have h2 : ffl rest = q := by have := hqf.out; omega
                    have h3 := ffl_at rest (by rw [h2, HM.out]; exact hlt)
                    rw [h2, hat] at h3; cases h3
                have hs3 := hbel2.size
                clear cb2 hat
                go_wp2_with (go_at_call 55; refine cb3.mono ?_; clear cb3; rintro e w3 ⟨rfl, hb3⟩)
                go_roundw
                case rel => exact ⟨q + 1, by go_num, by omega, hq2, hbq2.trans (hb3.mono hbq2.size)⟩
                case measure => simp [intOf]; omega
              | true =>
                have cb3 := cb2 true hat _ ((hrd2.dropP (by omega)).more hbel2.size)
                have HQ : Hid (ffl rest = q) := ffl_eq (fun j hj => ffl_no rest j (by have := hqf.out; omega)) hat
                have hq8 : q + 8 ≤ m := by have := atF_len hat; rw [List.length_drop, HM.out] at this; omega
                have HNE : Hid (ffl rest ≠ rest.length) := by unfold Hid; rw [HQ.out, HM.out]; omega
                have cbr := fun (res : Option (List Bool)) (hr : Hid (bareR 0 (rest.take q) = res)) (W : World) (hW : Reads W W.heap.size (some ad2) q (vb (rest.take q))) => stuff_bare (some ad2) q k (rest.take q) res W hW (by omega) hr
                have i1 : (q : Int) ≤ (m : Int) := by omega
                have i2 : q ≤ k := by omega
                have i3 : ¬ (q : Int) = (m : Int) := by omega
                have hqne : ¬ q = m := by omega
                have i3b : ((q : Int) == (m : Int)) = false := by simp; omega
                clear cb2 hat
                cases hbr : bareR 0 (rest.take q) with
                | none =>
                  have cbr := cbr none hbr
                  have HX : Hid (splitX l = none) := by
                    unfold Hid; rw [← hst.out, splR_bad HM0.out (by rw [HQ.out]; exact hbr)]; rfl
                  have hRR := splitR_no HAT.out HX.out
                  rw [hR.out] at hRR
                  have HRR := Lib.hid hRR
                  clear hbr hRR
                  go_wp2_with (first
                    | (go_at_call 55; refine cb3.mono ?_; clear cb3; rintro e w3 ⟨rfl, hb3⟩)
                    | (go_at_call 56; refine (cbr _ (((hrd2.below (hb3.mono hbel2.size)).takeP (by omega)).more (Nat.le_trans hbel2.size hb3.size))).mono ?_; clear cbr; rintro e w4 ⟨A4, n4, c4, rfl, hb4⟩))
                  go_ret2
                  rw [HRR.out]
                  exact ⟨rfl, (hbel2.trans (hb3.mono hbel2.size)).trans (hb4.mono (Nat.le_trans hbel2.size hb3.size))⟩
                | some t =>
                  have cbr := cbr (some t) hbr
                  obtain ⟨tl, htl⟩ : ∃ tl, t.length = tl := ⟨_, rfl⟩
                  have HTL := Lib.hid htl
                  by_cases h64 : 64 < tl
                  · have HX : Hid (splitX l = none) := by
                      unfold Hid; rw [← hst.out, splR_long HM0.out (by rw [HQ.out]; exact hbr) (by rw [htl]; exact h64)]; rfl
                    have hRR := splitR_no HAT.out HX.out
                    rw [hR.out] at hRR
                    have HRR := Lib.hid hRR
                    have j8 : (64 : Int) < (tl : Int) := by omega
                    clear hbr hRR htl
                    go_wp2_with (first
                      | (go_at_call 55; refine cb3.mono ?_; clear cb3; rintro e w3 ⟨rfl, hb3⟩)
                      | (go_at_call 56; refine (cbr _ (((hrd2.below (hb3.mono hbel2.size)).takeP (by omega)).more (Nat.le_trans hbel2.size hb3.size))).mono ?_; clear cbr; rintro e w4 ⟨A4, n4, c4, rfl, ho4, hb4⟩; obtain rfl : n4 = tl := (by have := ho4.len; rw [List.length_map, HTL.out] at this; exact this.symm)))
                    go_ret2
                    rw [HRR.out]
                    exact ⟨rfl, (hbel2.trans (hb3.mono hbel2.size)).trans (hb4.mono (Nat.le_trans hbel2.size hb3.size))⟩
                  · have hnx := splR_next (f := f + 1) HM0.out HNE.out (by rw [HQ.out]; exact hbr) (by rw [htl]; exact h64)
                    have HST : Hid ((splR (f + 1) (rest.drop (q + 8))).map (T ++ [t] ++ ·) = splitX l) := by
                      unfold Hid; rw [← hst.out, hnx, map_consL, HQ.out]
                    have j8 : ¬ (64 : Int) < (tl : Int) := by omega
                    have hlr : Hid ((rest.drop (q + 8)).length = m - (q + 8)) := by unfold Hid; rw [List.length_drop, HM.out]
                    have hl1 : (rest.drop (q + 8)).length ≤ f := by have := HRF.out; have := hlr.out; have := HM.out; omega
                    have hl2 : 8 * (T ++ [t]).length + (rest.drop (q + 8)).length ≤ 1000 := by
                      rw [List.length_append, HTN.out]; have := HT.out; have := hlr.out; have := HM.out; simp; omega
                    have htn125 : tn ≤ 125 := by have := HT.out; omega
                    have hmp : (T.map vb ++ [vb t]) = (T ++ [t]).map vb := by simp
                    have HMP := Lib.hid hmp
                    have i4 : ((q : Int) + 8) ≤ (m : Int) := by omega
                    have i5 : q + 8 ≤ m := hq8
                    clear hbr hnx htl hmp
                    by_cases hcut : k = q + 8
                    · subst hcut
                      have hmq : m ≤ q + 8 := by omega
                      rw [show q + 8 - q = 8 by omega] at cb3
                      go_wp2_with (first
                        | (go_at_call 55; refine cb3.mono ?_; clear cb3; rintro e w3 ⟨rfl, hb3⟩)
                        | (go_at_call 56; refine (cbr _ (((hrd2.below (hb3.mono hbel2.size)).takeP (by omega)).more (Nat.le_trans hbel2.size hb3.size))).mono ?_; clear cbr; rintro e w4 ⟨A4, n4, c4, rfl, ho4, hb4⟩; obtain rfl : n4 = tl := (by have := ho4.len; rw [List.length_map, HTL.out] at this; exact this.symm); have hown3 := hown2.below hb3; have hown4 := hown3.below hb4; have hlt0 : ∀ q, Value.ownBlock _ = some q → q < w3.heap.size := (by obtain ⟨vs0, hv0, _⟩ := hown3; exact fun q hq => (Own.lt hv0 q hq).2); obtain ⟨vs, hv, hrw⟩ := hown4; have hvl : vs.length = tn := (by rw [hrw.1, List.length_map, HTN.out]); have hbel4 := (hbel2.trans (hb3.mono hbel2.size)).trans (hb4.mono (Nat.le_trans hbel2.size hb3.size)); have hn4 : n4 ≤ maxLen := (by unfold maxLen; omega); have HVL := Lib.hid hvl; clear hvl)
                        | (at_builtin; refine app1 el_rowsS rfl _ _ rfl rfl hv _ _ rfl rfl (by rw [HVL.out]; unfold maxLen; omega) (by rw [HVL.out]; omega) hbel4.size ?_; intro v5 w5 ho5 hb5 hg5 hat5; have hpush := rows_push hrw ho4.reads hn4 (fun ad ha hq => by have h1 := ho4.beyond ad ha; have h2 := hlt0 _ hq; omega) ho4.withinS ho5 hg5 hat5))
                      rw [HMP.out] at hpush
                      have hrd5 : Reads w5 w.heap.size (some ad2) m (vb rest) := ((hrd2.below (hb3.mono hbel2.size)).below (hb4.mono (Nat.le_trans hbel2.size hb3.size))).below hb5
                      go_roundw
                      case rel => exact ⟨rest.drop (q + 8), T ++ [t], f, m - (q + 8), 0, some ad2, by rw [Nat.sub_self], by omega, ⟨by rw [List.length_map, hlr.out], fun h1 => absurd h1 (by omega)⟩, hpush, hbel4.trans hb5, hl1, hl2, HST⟩
                      case measure => simp [slen]; omega
                    · have hcut2 : ¬ k = q + 8 := hcut
                      have hfr : Hid (Value.slice (some ⟨ad2.block, ad2.off + (q + 8), none⟩) (m - (q + 8)) (k - (q + 8)) = .slice (some (ad2.add (q + 8))) (m - (q + 8)) (k - (q + 8))) := by simp [Hid, Addr.add]
                      go_wp2_with (first
                        | (go_at_call 55; refine cb3.mono ?_; clear cb3; rintro e w3 ⟨rfl, hb3⟩)
                        | (go_at_call 56; refine (cbr _ (((hrd2.below (hb3.mono hbel2.size)).takeP (by omega)).more (Nat.le_trans hbel2.size hb3.size))).mono ?_; clear cbr; rintro e w4 ⟨A4, n4, c4, rfl, ho4, hb4⟩; obtain rfl : n4 = tl := (by have := ho4.len; rw [List.length_map, HTL.out] at this; exact this.symm); have hown3 := hown2.below hb3; have hown4 := hown3.below hb4; have hlt0 : ∀ q, Value.ownBlock _ = some q → q < w3.heap.size := (by obtain ⟨vs0, hv0, _⟩ := hown3; exact fun q hq => (Own.lt hv0 q hq).2); obtain ⟨vs, hv, hrw⟩ := hown4; have hvl : vs.length = tn := (by rw [hrw.1, List.length_map, HTN.out]); have hbel4 := (hbel2.trans (hb3.mono hbel2.size)).trans (hb4.mono (Nat.le_trans hbel2.size hb3.size)); have hn4 : n4 ≤ maxLen := (by unfold maxLen; omega); have HVL := Lib.hid hvl; clear hvl)
                        | (at_builtin; refine app1 el_rowsS rfl _ _ rfl rfl hv _ _ rfl rfl (by rw [HVL.out]; unfold maxLen; omega) (by rw [HVL.out]; omega) hbel4.size ?_; intro v5 w5 ho5 hb5 hg5 hat5; have hpush := rows_push hrw ho4.reads hn4 (fun ad ha hq => by have h1 := ho4.beyond ad ha; have h2 := hlt0 _ hq; omega) ho4.withinS ho5 hg5 hat5))
                      rw [HMP.out] at hpush
                      have hrd5 : Reads w5 w.heap.size (some ad2) m (vb rest) := ((hrd2.below (hb3.mono hbel2.size)).below (hb4.mono (Nat.le_trans hbel2.size hb3.size))).below hb5
                      go_roundw
                      case rel => exact ⟨rest.drop (q + 8), T ++ [t], f, m - (q + 8), k - (q + 8), _, hfr.out, by omega, hrd5.dropP i5, hpush, hbel4.trans hb5, hl1, hl2, HST⟩
                      case measure => simp [slen]; omega
            · obtain rfl : q = m := by omega
              have HX : Hid (splitX l = none) := by
                unfold Hid; rw [← hst.out, splR_end HM0.out (by have := hqf.out; have := ffl_le rest; have := HM.out; omega)]; rfl
              have hRR := splitR_no HAT.out HX.out
              rw [hR.out] at hRR
              have HRR := Lib.hid hRR
              have i2 : q ≤ k := by omega
              clear hRR
              have hrd3 := (hrd2.takeP (Nat.le_refl _)).more hbel2.size
              cases hbr : bareR 0 (rest.take q) with
              | none =>
                have cbr := stuff_bare (some ad2) q k (rest.take q) none _ hrd3 (by omega) hbr
                clear hbr
                go_wp2_with (go_at_call 56; refine cbr.mono ?_; clear cbr; rintro e w4 ⟨A4, n4, c4, rfl, hb4⟩)
                go_ret2
                rw [HRR.out]
                exact ⟨rfl, hbel2.trans (hb4.mono hbel2.size)⟩
              | some t =>
                have cbr := stuff_bare (some ad2) q k (rest.take q) (some t) _ hrd3 (by omega) hbr
                clear hbr
                go_wp2_with (go_at_call 56; refine cbr.mono ?_; clear cbr; rintro e w4 ⟨A4, n4, c4, rfl, ho4, hb4⟩)
                go_ret2
                rw [HRR.out]
                exact ⟨rfl, hbel2.trans (hb4.mono hbel2.size)⟩
end Go.Proofs.Ytmepiiheidmbgaa

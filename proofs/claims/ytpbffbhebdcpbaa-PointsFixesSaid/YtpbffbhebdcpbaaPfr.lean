/-
  quipuref.Fixed: by all sets.
-/
import Derived.Test.YtpbffbhebdcpbaaPfl
import Derived.Test.YtpbffbhebdcpbaaThrq
import Derived.Test.YtpbffbhebdcpbaaWords
import Derived.Test.YtpbffbhebdcpbaaPoint
set_option linter.unusedVariables false
namespace Go.Proofs.Ytpbffbhebdcpbaa
open Go.RowKit

theorem setL_next {S j : Nat} : setL (j + 1) S = setL j S ++ if S.testBit j then [j] else [] := setL_succ j S
theorem setL_le (j S : Nat) : (setL j S).length ≤ j := by
  have := List.length_filter_le (fun i => S.testBit i) (List.range j)
  rw [List.length_range] at this
  exact this
theorem cntO_congr {f g : Nat → Bool} : ∀ n, (∀ j, j < n → f j = g j) → cntO f n = cntO g n
  | 0, _ => rfl
  | n + 1, h => by rw [cntO, cntO, cntO_congr n (fun j hj => h j (by omega)), h n (by omega)]
theorem off_none (l : List Int) (d : List Nat) (n : Nat) : cntO (offB l (List.replicate n false) d) n = offN l d n := by
  unfold offN
  refine cntO_congr n fun j hj => ?_
  unfold offB disN
  have : (List.replicate n false).getD j false = false := by
    rw [List.getD_eq_getElem?_getD, List.getElem?_replicate]; split <;> rfl
  rw [this]; simp
theorem el_boolP : Elem Try.prog 22 4 (.bool false) 1 := Elem.mk' Try.underlying22 (by kernel_rfl) rfl
theorem vb_rep (n : Nat) : List.replicate n (Value.bool false) = vb (List.replicate n false) := by simp [vb]
/-- what Fixed answers, in memory -/
def FxP (w : World) (l : List Int) (n k : Nat) (e : Ending) (w' : World) : Prop :=
  (∃ A n1 c1 d, e = .returned (.tuple #[.slice A n1 c1, .bool true]) ∧ FixY l n k d ∧ Own w' w.heap.size 3 (.slice A n1 c1) (vn .i64 d) ∧ Below w.heap.size w w') ∨
  (e = .returned (.tuple #[.slice none 0 0, .bool false]) ∧ FixN l n k ∧ Below w.heap.size w w')
theorem Own.capLeF {w : World} {base n c : Nat} {E : TypeId} {A : Option Addr} {xs : List Value} (h : Own w base E (.slice A n c) xs) : n ≤ c := by
  have hl := h.len
  rcases h.2 with ⟨e, h0⟩ | ⟨g, cap, cur, e, hb, hh, hnc, hc2, hs, ht⟩
  · injection e with e1 e2 e3; omega
  · injection e with e1 e2 e3; omega
set_option maxHeartbeats 800000 in
set_option maxRecDepth 100000 in
theorem ref_Fixed (k : Nat) (A : Option Addr) (n c : Nat) (l : List Int) (w : World) (h : Reads w w.heap.size A n (vi .i64 l)) (hn : n ≤ 9) (hk1 : 1 ≤ k) (hkn : k ≤ n) (hl : ∀ j, j < n → 0 ≤ l.getD j 0 ∧ l.getD j 0 < 16) :
    Calls Try.prog 19 #[.int .i64 (k : Int), .slice A n c] w (FxP w l n k) := by
  have h9 : 2 ^ n ≤ 512 := Nat.pow_le_pow_right (n := 2) (by omega) hn
  obtain ⟨p, hp⟩ : ∃ p, p = 2 ^ n := ⟨_, rfl⟩
  have es := shl_int (m := n) (by omega)
  rw [← hp] at es h9
  have HP := Lib.hid hp
  have H := Lib.hid h
  have HLV := Lib.hid hl
  clear h hl hp
  go_enter Try.func19, Try.ntmps19
  go_wp2_with (at_make; refine mkN el_boolP rfl _ _ rfl w.heap.size n rfl rfl rfl rfl (by omega) (by unfold maxLen; omega) (Nat.le_refl _) ?_; intro w1 ho1 hb1 hs1)
  rw [vb_rep] at ho1
  generalize (⟨w.heap.size, 0, none⟩ : Addr) = adn at *
  go_loopw [8, 9, 10, 11] (fun sv _ _ _ wr => ∃ S : Nat, S ≤ p ∧ sv = .int .u32 (S : Int) ∧ Below w1.heap.size w1 wr ∧ Hid (∀ T, T < S → pop T = k → ¬ GoodD l n k (lagL (lvI l) (setL n T) (setL n T)))) (fun sv _ _ _ _ => p - (intOf sv).toNat)
  case atStart => exact ⟨0, Nat.zero_le _, rfl, Below.refl _ _, fun T hT => by omega⟩
  case round =>
    obtain ⟨S, hS, rfl, hbel, hno⟩ := hrel
    obtain ⟨wo, rfl⟩ : ∃ x, x = wr := ⟨_, rfl⟩
    by_cases hlt : S < p
    · have i1 : (S : Int) < (p : Int) := by omega
      have cS := ref_Size S wo (by omega)
      by_cases hq : pop S = k
      · have hqb : ((pop S : Int) != (k : Int)) = false := by simp [hq]
        have hinc := setL_inc (n := n) (S := S) hn (by rw [← HP.out]; exact hlt)
        have HINC := Lib.hid hinc
        have HQ := Lib.hid hq
        generalize hpo : pop S = q at *
        have HPO := Lib.hid hpo
        clear hpo hq hinc
        go_wp2_with (go_at_call 34; refine cS.mono ?_; clear cS; rintro e w' ⟨rfl, rfl⟩)
        have hs0 := hbel.size
        have HBEL := Lib.hid hbel
        clear hbel
        go_loopw [9, 10] (fun pv iv wi => ∃ i : Nat, i ≤ n ∧ iv = .int .i64 (i : Int) ∧ Own wi wo.heap.size 3 pv (vn .i64 (setL i S)) ∧ Below wo.heap.size wo wi) (fun _ iv _ => n - (intOf iv).toNat)
        case atStart => exact ⟨0, Nat.zero_le _, rfl, Own.nil _ _ _, Below.refl _ _⟩
        case round =>
          obtain ⟨i, hi, rfl, hown, hbi⟩ := hrel
          have hsi := hbi.size
          by_cases hlti : i < n
          · have j1 : (i : Int) < (n : Int) := by omega
            have j0 : (0 : Int) ≤ (i : Int) := by omega
            have cB := ref_Bit S i wr (by omega) (by omega)
            have hsl := setL_le i S
            have hbt : bitB S i = S.testBit i := by unfold bitB; rw [Nat.testBit_eq_decide_div_mod_eq]; rfl
            cases hb : bitB S i
            · rw [hb] at cB
              have HN : Hid (setL (i + 1) S = setL i S) := by unfold Hid; rw [setL_next, ← hbt, hb]; simp
              clear hb hbt
              go_wp2_with (go_at_call 35; refine cB.mono ?_; clear cB; rintro e w' ⟨rfl, rfl⟩)
              go_roundw
              case rel => exact ⟨i + 1, by omega, by go_num, by rw [HN.out]; exact hown, hbi⟩
              case measure => simp [intOf] <;> omega
            · rw [hb] at cB
              have HN : Hid (vn .i64 (setL i S) ++ [Value.int .i64 (i : Int)] = vn .i64 (setL (i + 1) S)) := by unfold Hid; rw [setL_next, ← hbt, hb]; simp [vn]
              have hvl : (vn .i64 (setL i S)).length ≤ 9 := by rw [List.length_map]; omega
              clear hb hbt
              go_wp2_with (first
                | (go_at_call 35; refine cB.mono ?_; clear cB; rintro e w' ⟨rfl, rfl⟩)
                | (at_builtin; refine app1 el_intP rfl _ _ rfl rfl hown _ _ rfl rfl (by unfold maxLen; omega) (by omega) hsi ?_; intro v6 w6 ho6 hb6 hg6 hat6))
              rw [HN.out] at ho6
              go_roundw
              case rel => exact ⟨i + 1, by omega, by go_num, ho6, hbi.trans hb6⟩
              case measure => simp [intOf] <;> omega
          · obtain rfl : n = i := by omega
            have j1 : ¬ (n : Int) < (n : Int) := by omega
            obtain ⟨Ap, cp, hpe⟩ := hown.form
            obtain ⟨np, hnp⟩ : ∃ np, (vn .i64 (setL n S)).length = np := ⟨_, rfl⟩
            rw [hnp] at hpe
            subst hpe
            have hnpk : np = k := by rw [← hnp, List.length_map, HINC.out.len]; exact HQ.out
            subst hnpk
            have hbw : Below w.heap.size w wr := hb1.trans ((HBEL.out.mono hb1.size).trans (hbi.mono (Nat.le_trans hb1.size hs0)))
            have hi2 := HINC.out
            rw [HQ.out] at hi2
            obtain ⟨hnl, hd16, hdl⟩ := both_same hi2 hn HLV.out
            have cT := ref_through A Ap n np c cp l (setL n S) wr ((H.out.below hbw).more hbw.size) hown.reads hown.capLeF hn (by omega) hi2.lt hi2.nodup (fun j hj => HLV.out j (hi2.lt j hj))
            rw [hnl] at cT
            have hlo : Reads wr wr.heap.size (some adn) n (vb (List.replicate n false)) := ((ho1.reads.below HBEL.out).more HBEL.out.size |>.below hbi).more hbi.size
            have cO := fun (A6 : Option Addr) (c6 : Nat) (w6 : World) (hb6 : Below wr.heap.size wr w6) (ho6 : Reads w6 w6.heap.size A6 np (vn .i64 (lagL (lvI l) (setL n S) (setL n S)))) => ref_off A (some adn) A6 n c n np c6 l (lagL (lvI l) (setL n S) (setL n S)) (List.replicate n false) w6 (((H.out.below hbw).more hbw.size |>.below hb6).more hb6.size) ((hlo.below hb6).more hb6.size) ho6 hn (by omega) hd16
            rw [off_none] at cO
            have hof := cntO_le (disN l (lagL (lvI l) (setL n S) (setL n S))) n
            have HDL := Lib.hid hdl
            have HI2 := Lib.hid hi2
            have HBW := Lib.hid hbw
            have CO := Lib.hid cO
            have HG : Hid (GoodD l n np (lagL (lvI l) (setL n S) (setL n S)) ↔ 2 * offN l (lagL (lvI l) (setL n S) (setL n S)) n ≤ n - np) := Iff.rfl
            have HWB : Hid (wo.heap.size ≤ wr.heap.size) := hbi.size
            have HBI := Lib.hid hbi
            clear hi2 hnl hd16 hdl hlo cO hown hnp hbw hbi
            change offN l (lagL (lvI l) (setL n S) (setL n S)) n ≤ n at hof
            generalize hd : lagL (lvI l) (setL n S) (setL n S) = d at *
            generalize hof2 : offN l d n = o at *
            have HD := Lib.hid hd
            clear hd hof2
            by_cases hgood : 2 * o ≤ n - np
            · have g1 : 2 * (o : Int) ≤ (n : Int) - (np : Int) := by omega
              have HY : Hid (FixY l n np d) := ⟨setL n S, HI2.out, HD.out.symm, HG.out.2 hgood⟩
              clear hgood hno
              go_wp2_with (first
                | (go_at_call 36; refine cT.mono ?_; clear cT; rintro e w6 ⟨A6, n6, c6, rfl, ho6, hb6⟩; obtain rfl : np = n6 := (by have := ho6.reads.nat_len; rw [HDL.out] at this; exact this); have cO := CO.out A6 c6 w6 hb6 ho6.reads)
                | (go_at_call 37; refine cO.mono ?_; clear cO; rintro e w7 ⟨rfl, hb7⟩))
              go_ret2
              exact .inl ⟨A6, np, c6, d, rfl, HY.out, Own.low (ho6.below hb7 (Nat.le_refl _)) (HBW.out.size), HBW.out.trans ((hb6.mono HBW.out.size).trans (hb7.mono (Nat.le_trans HBW.out.size hb6.size)))⟩
            · have g1 : (n : Int) - (np : Int) < 2 * (o : Int) := by omega
              have o1 : (o : Int) ≤ 9 := by omega
              have o0 : (0 : Int) ≤ (o : Int) := by omega
              have np0 : (0 : Int) ≤ (np : Int) := by omega
              have np1 : (np : Int) ≤ (n : Int) := by omega
              have n9 : (n : Int) ≤ 9 := by omega
              have g2 : decide (2 * (o : Int) ≤ (n : Int) - (np : Int)) = false := decide_eq_false (by omega)
              have HN : Hid (∀ T, T < S + 1 → pop T = np → ¬ GoodD l n np (lagL (lvI l) (setL n T) (setL n T))) := fun T hT hp => by
                rcases Nat.lt_or_ge T S with h1 | h1
                · exact hno.out T h1 hp
                · obtain rfl : T = S := by omega
                  rw [HD.out]; exact fun hg => hgood (HG.out.1 hg)
              clear hgood hno
              go_wp2_with (first
                | (go_at_call 36; refine cT.mono ?_; clear cT; rintro e w6 ⟨A6, n6, c6, rfl, ho6, hb6⟩; obtain rfl : np = n6 := (by have := ho6.reads.nat_len; rw [HDL.out] at this; exact this); have cO := CO.out A6 c6 w6 hb6 ho6.reads)
                | (go_at_call 37; refine cO.mono ?_; clear cO; rintro e w7 ⟨rfl, hb7⟩))
              have hB7 : Below w1.heap.size w1 w7 := HBEL.out.trans ((HBI.out.mono hs0).trans ((hb6.mono (Nat.le_trans hs0 HWB.out)).trans (hb7.mono (Nat.le_trans (Nat.le_trans hs0 HWB.out) hb6.size))))
              go_roundw
              case rel => exact ⟨S + 1, by omega, by go_num, hB7, HN.out⟩
              case measure => simp [intOf] <;> omega
      · have hqb : ((pop S : Int) != (k : Int)) = true := by simp; omega
        have HN : Hid (∀ T, T < S + 1 → pop T = k → ¬ GoodD l n k (lagL (lvI l) (setL n T) (setL n T))) := fun T hT hp => by
          rcases Nat.lt_or_ge T S with h1 | h1
          · exact hno.out T h1 hp
          · obtain rfl : T = S := by omega
            exact absurd hp hq
        generalize pop S = q at *
        clear hq hno
        go_wp2_with (go_at_call 34; refine cS.mono ?_; clear cS; rintro e w' ⟨rfl, rfl⟩)
        go_roundw
        case rel => exact ⟨S + 1, by omega, by go_num, hbel, HN.out⟩
        case measure => simp [intOf] <;> omega
    · obtain rfl : S = p := by omega
      have i1 : ¬ (S : Int) < (S : Int) := by omega
      have HN : Hid (FixN l n k) := fixN_of hn (fun T hT hp => hno.out T (by rw [HP.out]; exact hT) hp)
      clear hno
      go_wp2
      go_ret2
      exact .inr ⟨rfl, HN.out, hb1.trans (hbel.mono hb1.size)⟩
end Go.Proofs.Ytpbffbhebdcpbaa

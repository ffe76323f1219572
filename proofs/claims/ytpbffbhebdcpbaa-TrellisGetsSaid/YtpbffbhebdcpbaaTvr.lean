/-
  quipuref.Trellises: all data, one after the other.
-/
import Derived.Test.YtpbffbhebdcpbaaTvl
import Derived.Test.YtpbffbhebdcpbaaTrelr
import Derived.Test.YtpbffbhebdcpbaaBose
import Derived.Test.YtpbffbhebdcpbaaBit64
set_option linter.unusedVariables false
namespace Go.Proofs.Ytpbffbhebdcpbaa
open Go.RowKit

def KV (L : List Bool) (n x : Nat) : Nat := difL (trL (digitsL x n) (n + 2)) L
/-- what Trellises answers, in memory -/
def TvP (w : World) (L : List Bool) (n : Nat) (e : Ending) (w' : World) : Prop :=
  ∃ A' n' c' d k, e = .returned (.tuple #[.slice A' n' c', .int .i64 ((k : Nat) : Int)]) ∧ BestV L n d k ∧ Reads w' w'.heap.size A' n' (vb d) ∧ Below w.heap.size w w'
theorem KV_le (L : List Bool) (n x : Nat) (hL : L.length = 2 * (n + 2)) : KV L n x ≤ 2 * (n + 2) := by
  unfold KV difL
  have := onesL_le (xorL (trL (digitsL x n) (n + 2)) L)
  have h2 : (xorL (trL (digitsL x n) (n + 2)) L).length ≤ 2 * (n + 2) := by unfold xorL; rw [List.length_zipWith, trL_len]; omega
  omega
set_option maxHeartbeats 1600000 in
theorem ref_Trellises (A : Option Addr) (n m c : Nat) (L : List Bool) (w : World) (h : Reads w w.heap.size A m (vb L)) (hm : m = 2 * (n + 2)) (hn : n ≤ 12) :
    Calls Try.prog 8 #[.slice A m c] w (TvP w L n) := by
  have hL := h.bool_len
  rw [hm] at hL
  have HLL := Lib.hid hL
  obtain ⟨p, hp⟩ : ∃ p, p = 2 ^ n := ⟨_, rfl⟩
  have h4 : 2 ^ n ≤ 4096 := Nat.pow_le_pow_right (n := 2) (by omega) hn
  have h1 : 1 ≤ 2 ^ n := Nat.pow_pos (by omega)
  rw [← hp] at h4 h1
  have es : wrap64 ((2 : Int) ^ n) = (p : Int) := by rw [hp]; exact wrap_pow n (by omega)
  have HP := Lib.hid hp
  have hdiv : (m : Int) / 2 - 2 = (n : Int) := by omega
  have H := Lib.hid h
  have HM := Lib.hid hm
  have hm28 : m ≤ 28 := by omega
  clear hp hm h hL
  have cD := ref_Digits 0 n w (by omega) (by omega)
  have e0 : ((0 : Nat) : Int) = 0 := rfl
  rw [e0] at cD
  have HK := Lib.hid (fun x => KV_le L n x HLL.out)
  have HKD : Hid (∀ x, KV L n x = difL (trL (digitsL x n) (n + 2)) L) := fun _ => rfl
  have hbr := Below.refl w.heap.size w
  go_enter Try.func8, Try.ntmps8
  go_wp2_with (first
    | (go_at_call 23; refine cD.mono ?_; clear cD; rintro e w1 ⟨A1, n1, c1, rfl, ho1, hb1⟩; obtain rfl : n = n1 := (by have := ho1.len; rw [List.length_map, digitsL_len] at this; exact this); have cT := ref_Trellis A1 n c1 (digitsL 0 n) w1 ho1.reads hn)
    | (go_at_call 25; refine cT.mono ?_; clear cT; rintro e w2 ⟨A2, n2, c2, rfl, ho2, hb2⟩; obtain rfl : m = n2 := (by have := ho2.len; rw [List.length_map, trL_len] at this; have := HM.out; omega); have hbw2 := hbr.trans ((hb1.trans (hb2.mono hb1.size)).mono hbr.size); have cV := ref_Differ A2 A m c2 c (trL (digitsL 0 n) (n + 2)) L (KV L n 0) w2 ho2.reads (H.out.below hbw2) (by omega) rfl)
    | (go_at_call 24; refine cV.mono ?_; clear cV; rintro e w3 ⟨rfl, m3, rfl⟩))
  have hb3 : Below w.heap.size w (w2.drewN m3) := below_drewN hbw2 m3
  have ho3 : Reads (w2.drewN m3) (w2.drewN m3).heap.size A1 n (vb (digitsL 0 n)) := ((ho1.below hb2 (Nat.le_refl _)).reads).drewN m3
  have hk0 := HK.out 0
  clear ho1 ho2 hb1 hb2 hbw2
  generalize w2.drewN m3 = wb at *
  go_loopw [7, 5, 6, 8, 9] (fun xv bv fv _ _ wr => ∃ (x xb : Nat) (Ab : Option Addr) (cb : Nat), 1 ≤ x ∧ x ≤ p ∧ xv = .int .i64 (x : Int) ∧ bv = .slice Ab n cb ∧ fv = .int .i64 ((KV L n xb : Nat) : Int) ∧ xb < x ∧ Reads wr wr.heap.size Ab n (vb (digitsL xb n)) ∧ Below w.heap.size w wr ∧ Hid (∀ y, y < x → KV L n xb ≤ KV L n y ∧ (y < xb → KV L n xb < KV L n y))) (fun xv _ _ _ _ _ => p - (intOf xv).toNat)
  case atStart => exact ⟨1, 0, A1, c1, by omega, h1, rfl, rfl, rfl, by omega, ho3, hb3, fun y hy => by obtain rfl : y = 0 := (by omega); exact ⟨Nat.le_refl _, fun h => by omega⟩⟩
  case round =>
    obtain ⟨x, xb, Ab, cb, hx1, hxp, rfl, rfl, rfl, hxb, hrd, hbel, hmin⟩ := hrel
    obtain ⟨wo, rfl⟩ : ∃ z, z = wr := ⟨_, rfl⟩
    clear ho3 hb3
    have hkb := HK.out xb
    by_cases hlt : x < p
    · have i1 : (x : Int) < (p : Int) := by omega
      have i0 : (0 : Int) ≤ (x : Int) := by omega
      have cD := ref_Digits x n wo (by omega) (by omega)
      have hkx := HK.out x
      have HRD := Lib.hid hrd
      have hbo := hbel
      clear hrd
      by_cases hless : KV L n x < KV L n xb
      · have HN : Hid (∀ y, y < x + 1 → KV L n x ≤ KV L n y ∧ (y < x → KV L n x < KV L n y)) := fun y hy => by
          rcases Nat.lt_or_ge y x with h2 | h2
          · have := (hmin.out y h2).1
            exact ⟨by omega, fun _ => by omega⟩
          · obtain rfl : y = x := by omega
            exact ⟨Nat.le_refl _, fun h => by omega⟩
        have hli : ((KV L n x : Nat) : Int) < ((KV L n xb : Nat) : Int) := by omega
        generalize hgx : KV L n x = kx at *
        have HGX := Lib.hid hgx
        generalize KV L n xb = kb at *
        clear hgx hmin hless
        go_wp2_with (first
    | (go_at_call 23; refine cD.mono ?_; clear cD; rintro e w1 ⟨A1, n1, c1, rfl, ho1, hb1⟩; obtain rfl : n = n1 := (by have := ho1.len; rw [List.length_map, digitsL_len] at this; exact this); have cT := ref_Trellis A1 n c1 (digitsL x n) w1 ho1.reads hn)
    | (go_at_call 25; refine cT.mono ?_; clear cT; rintro e w2 ⟨A2, n2, c2, rfl, ho2, hb2⟩; obtain rfl : m = n2 := (by have := ho2.len; rw [List.length_map, trL_len] at this; have := HM.out; omega); have hbw2 := hbo.trans ((hb1.trans (hb2.mono hb1.size)).mono hbo.size); have cV := ref_Differ A2 A m c2 c (trL (digitsL x n) (n + 2)) L kx w2 ho2.reads (H.out.below hbw2) (by omega) HGX.out)
    | (go_at_call 24; refine cV.mono ?_; clear cV; rintro e w3 ⟨rfl, m3, rfl⟩))
        have hrd' : Reads (w2.drewN m3) (w2.drewN m3).heap.size A1 n (vb (digitsL x n)) := ((ho1.below hb2 (Nat.le_refl _)).reads).drewN m3
        have hb3 : Below w.heap.size w (w2.drewN m3) := below_drewN hbw2 m3
        go_roundw
        case rel => exact ⟨x + 1, x, A1, c1, by omega, by omega, by go_num, rfl, by rw [HGX.out], by omega, hrd', hb3, by have := HN.out; rw [HGX.out]; exact this⟩
        case measure => simp [intOf] <;> omega
      · have HN : Hid (∀ y, y < x + 1 → KV L n xb ≤ KV L n y ∧ (y < xb → KV L n xb < KV L n y)) := fun y hy => by
          rcases Nat.lt_or_ge y x with h2 | h2
          · exact hmin.out y h2
          · obtain rfl : y = x := by omega
            exact ⟨by omega, fun h => by omega⟩
        have hli : decide (((KV L n x : Nat) : Int) < ((KV L n xb : Nat) : Int)) = false := decide_eq_false (by omega)
        have hlj : ¬ (((KV L n x : Nat) : Int) < ((KV L n xb : Nat) : Int)) := by omega
        have HKX : Hid (KV L n x = KV L n x) := rfl
        generalize hgx : KV L n x = kx at *
        generalize hgb : KV L n xb = kb at *
        have HGX := Lib.hid hgx
        have HGB := Lib.hid hgb
        clear hgx hgb hmin hless
        go_wp2_with (first
    | (go_at_call 23; refine cD.mono ?_; clear cD; rintro e w1 ⟨A1, n1, c1, rfl, ho1, hb1⟩; obtain rfl : n = n1 := (by have := ho1.len; rw [List.length_map, digitsL_len] at this; exact this); have cT := ref_Trellis A1 n c1 (digitsL x n) w1 ho1.reads hn)
    | (go_at_call 25; refine cT.mono ?_; clear cT; rintro e w2 ⟨A2, n2, c2, rfl, ho2, hb2⟩; obtain rfl : m = n2 := (by have := ho2.len; rw [List.length_map, trL_len] at this; have := HM.out; omega); have hbw2 := hbo.trans ((hb1.trans (hb2.mono hb1.size)).mono hbo.size); have cV := ref_Differ A2 A m c2 c (trL (digitsL x n) (n + 2)) L kx w2 ho2.reads (H.out.below hbw2) (by omega) HGX.out)
    | (go_at_call 24; refine cV.mono ?_; clear cV; rintro e w3 ⟨rfl, m3, rfl⟩))
        have hrd' : Reads (w2.drewN m3) (w2.drewN m3).heap.size Ab n (vb (digitsL xb n)) := ((HRD.out.below (hb1.trans (hb2.mono hb1.size))).more (hb1.trans (hb2.mono hb1.size)).size).drewN m3
        have hb3 : Below w.heap.size w (w2.drewN m3) := below_drewN hbw2 m3
        go_roundw
        case rel => exact ⟨x + 1, xb, Ab, cb, by omega, by omega, by go_num, rfl, by rw [HGB.out], by omega, hrd', hb3, by have := HN.out; rw [HGB.out]; exact this⟩
        case measure => simp [intOf] <;> omega
    · obtain rfl : p = x := by omega
      have i1 : ¬ (p : Int) < (p : Int) := by omega
      have HBV : Hid (BestV L n (digitsL xb n) (KV L n xb)) := best_ref (by rw [← HP.out]; exact hxb) (fun y hy => hmin.out y (by rw [HP.out]; exact hy))
      clear hmin
      generalize KV L n xb = kb at *
      go_wp2
      go_ret2
      exact ⟨Ab, n, cb, _, kb, rfl, HBV.out, hrd, hbel⟩
end Go.Proofs.Ytpbffbhebdcpbaa

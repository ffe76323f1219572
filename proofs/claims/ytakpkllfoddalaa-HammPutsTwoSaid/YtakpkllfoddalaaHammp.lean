import Derived.Test.YtakpkllfoddalaaHammg
import Derived.RegionTactic
import Derived.ChangeAlike
import Derived.BigRegion
set_option linter.unusedVariables false
namespace Go.Proofs.Ytakpkllfoddalaa
open Go.RowKit

/-- how many powers there are up to a place -/
def pwc : Nat → Nat
  | 0 => 0
  | i + 1 => pwc i + if isPow (i + 1) then 1 else 0
theorem pwc_le (i : Nat) : pwc i ≤ i := by
  induction i with
  | zero => exact Nat.le_refl _
  | succ i ih => rw [pwc]; split <;> omega
theorem rn_of {r n : Nat} (hr2 : 2 ≤ r) (hr4 : r ≤ 4) (hn : n + 1 = 2 ^ r) : (r = 2 ∧ n = 3) ∨ (r = 3 ∧ n = 7) ∨ (r = 4 ∧ n = 15) := by
  have : r = 2 ∨ r = 3 ∨ r = 4 := by omega
  rcases this with rfl | rfl | rfl <;> omega
theorem np_lt {r n i : Nat} (hr2 : 2 ≤ r) (hr4 : r ≤ 4) (hn : n + 1 = 2 ^ r) (hi : i < n) (hp : isPow (i + 1) = false) : i - pwc i < n - r := by
  rcases rn_of hr2 hr4 hn with ⟨rfl, rfl⟩ | ⟨rfl, rfl⟩ | ⟨rfl, rfl⟩
  · exact (by decide : ∀ i : Fin 3, isPow (i.val + 1) = false → i.val - pwc i.val < 3 - 2) ⟨i, hi⟩ hp
  · exact (by decide : ∀ i : Fin 7, isPow (i.val + 1) = false → i.val - pwc i.val < 7 - 3) ⟨i, hi⟩ hp
  · exact (by decide : ∀ i : Fin 15, isPow (i.val + 1) = false → i.val - pwc i.val < 15 - 4) ⟨i, hi⟩ hp
theorem pwc_lt {r n i : Nat} (hr2 : 2 ≤ r) (hr4 : r ≤ 4) (hn : n + 1 = 2 ^ r) (hi : i < n) (hp : isPow (i + 1) = true) : pwc i < r := by
  rcases rn_of hr2 hr4 hn with ⟨rfl, rfl⟩ | ⟨rfl, rfl⟩ | ⟨rfl, rfl⟩
  · exact (by decide : ∀ i : Fin 3, isPow (i.val + 1) = true → pwc i.val < 2) ⟨i, hi⟩ hp
  · exact (by decide : ∀ i : Fin 7, isPow (i.val + 1) = true → pwc i.val < 3) ⟨i, hi⟩ hp
  · exact (by decide : ∀ i : Fin 15, isPow (i.val + 1) = true → pwc i.val < 4) ⟨i, hi⟩ hp
theorem pow_at : ∀ i : Fin 15, isPow (i.val + 1) = true → i.val + 1 = 2 ^ pwc i.val := by decide
theorem pow_is : ∀ i : Fin 4, isPow (2 ^ i.val - 1 + 1) = true ∧ pwc (2 ^ i.val - 1) = i.val := by decide
/-- what stands at a place, where the powers have s's bits -/
def layF (D : List Bool) (s j : Nat) : Bool := if isPow (j + 1) then bitB s (pwc j) else D.getD (j - pwc j) false
def layL (D : List Bool) (s n : Nat) : List Bool := (List.range n).map (layF D s)
theorem layL_len (D : List Bool) (s n : Nat) : (layL D s n).length = n := by simp [layL]
theorem layL_next (D : List Bool) (s n : Nat) : layL D s (n + 1) = layL D s n ++ [layF D s n] := by unfold layL; rw [List.range_succ, List.map_append]; rfl
def setF (s j : Nat) : Bool := isPow (j + 1) && bitB s (pwc j)
theorem ptr_split (D : List Bool) (s n : Nat) : ptrF (layF D s) n = ptrF (layF D 0) n ^^^ ptrF (setF s) n := by
  induction n with
  | zero => simp [ptrF]
  | succ n ih =>
    rw [ptrF, ptrF, ptrF, ih]
    unfold layF setF
    have h0 : bitB 0 (pwc n) = false := by simp [bitB]
    cases hp : isPow (n + 1)
    · simp only [Bool.false_eq_true, if_false, Bool.false_and]
      rw [Nat.xor_zero, Nat.xor_assoc, Nat.xor_assoc]
      congr 1
      exact Nat.xor_comm _ _
    · simp only [if_true, Bool.true_and, h0, Bool.false_eq_true, if_false]
      rw [Nat.xor_zero, Nat.xor_assoc]
theorem ptr_set {r n s : Nat} (hr2 : 2 ≤ r) (hr4 : r ≤ 4) (hn : n + 1 = 2 ^ r) (hs : s < 2 ^ r) : ptrF (setF s) n = s := by
  rcases rn_of hr2 hr4 hn with ⟨rfl, rfl⟩ | ⟨rfl, rfl⟩ | ⟨rfl, rfl⟩
  · exact (by decide : ∀ s : Fin 4, ptrF (setF s.val) 3 = s.val) ⟨s, hs⟩
  · exact (by decide : ∀ s : Fin 8, ptrF (setF s.val) 7 = s.val) ⟨s, hs⟩
  · exact (by decide +kernel : ∀ s : Fin 16, ptrF (setF s.val) 15 = s.val) ⟨s, hs⟩
theorem ptr_lay (D : List Bool) (s n : Nat) : ptrL (layL D s n) = ptrF (layF D s) n := by
  unfold ptrL
  rw [layL_len]
  exact ptrF_congr fun i hi => by
    unfold layL
    simp only [List.getD, List.getElem?_map, List.getElem?_range hi, Option.map_some, Option.getD_some]
/-- while the powers are being set -/
def layG (D : List Bool) (p i j : Nat) : Bool := if isPow (j + 1) then decide (pwc j < i) && bitB p (pwc j) else D.getD (j - pwc j) false
theorem layG_zero (D : List Bool) (p n : Nat) : (List.range n).map (layG D p 0) = layL D 0 n := by
  unfold layL
  apply List.map_congr_left
  intro j _
  unfold layG layF
  split
  · simp [bitB]
  · rfl
theorem layG_full {r n : Nat} (D : List Bool) (p : Nat) (hr2 : 2 ≤ r) (hr4 : r ≤ 4) (hn : n + 1 = 2 ^ r) : (List.range n).map (layG D p r) = layL D p n := by
  unfold layL
  apply List.map_congr_left
  intro j hj
  unfold layG layF
  split
  · rename_i h
    rw [decide_eq_true (pwc_lt hr2 hr4 hn (List.mem_range.1 hj) h), Bool.true_and]
  · rfl
theorem layG_next {n i q : Nat} (D : List Bool) (p : Nat) (hn : n ≤ 15) (hi : i < 4) (hq : q + 1 = 2 ^ i) (hqn : q < n) : ((List.range n).map (layG D p i)).set q (bitB p i) = (List.range n).map (layG D p (i + 1)) := by
  apply List.ext_getElem?
  intro j
  rw [List.getElem?_set, List.length_map, List.length_range]
  by_cases hj : j < n
  · rw [List.getElem?_map, List.getElem?_map, List.getElem?_range hj]
    simp only [Option.map_some]
    have hq2 := pow_is ⟨i, hi⟩
    simp only at hq2
    rw [← hq, Nat.add_sub_cancel] at hq2
    by_cases e : q = j
    · subst e
      rw [if_pos rfl, if_pos hqn]
      unfold layG
      rw [hq2.1, hq2.2]; simp
    · rw [if_neg e]
      unfold layG
      cases hp : isPow (j + 1)
      · rfl
      · have hjp := pow_at ⟨j, by omega⟩ hp
        simp only at hjp
        have hne : pwc j ≠ i := by intro h; rw [h] at hjp; omega
        simp only [if_true]
        congr 2
        rw [decide_eq_decide]; omega
  · rw [if_neg (by omega), List.getElem?_eq_none (by simpa using hj), List.getElem?_eq_none (by simpa using hj)]

set_option maxHeartbeats 1600000 in
theorem hamm_Put (r : Nat) (A : Option Addr) (m n c : Nat) (D : List Bool) (p : Nat) (w : World) (h : Reads w w.heap.size A m (vb D)) (hr2 : 2 ≤ r) (hr4 : r ≤ 4) (hn : Hid (n + 1 = 2 ^ r)) (hm : Hid (m + r = n)) (hp : Hid (ptrL (layL D 0 n) = p)) :
    Calls Try.prog 23 #[.int .i64 (r : Int), .slice A m c] w (fun e w' => ∃ A' n' c', e = .returned (.tuple #[.slice A' n' c', .int .i64 0]) ∧ Own w' w.heap.size 4 (.slice A' n' c') (vb (layL D p n)) ∧ Below w.heap.size w w') := by
  have H := Lib.hid h.bool_len
  have es : wrap64 ((2 : Int) ^ r) = (n : Int) + 1 := by rw [wrap_pow r (by omega), ← hn.out]; omega
  have hn15 : n ≤ 15 := by have : 2 ^ r ≤ 2 ^ 4 := Nat.pow_le_pow_right (by omega) hr4; have := hn.out; omega
  have hmi : ((m : Int) != (n : Int) - (r : Int)) = false := by have := hm.out; simp; omega
  have hrn : r ≤ n := by have := hm.out; omega
  have hm15 : m ≤ 15 := by have := hm.out; omega
  have hpl : p ≤ 15 := by
    have := ptrL_lt (l := layL D 0 n) (r := 4) (by rw [layL_len]; omega)
    rw [hp.out] at this; omega
  go_enter Try.func23, Try.ntmps23
  go_wp2_with (at_make; refine mkN el_clone_bools rfl _ _ rfl w.heap.size n rfl rfl rfl rfl (by omega) (by unfold maxLen; omega) (Nat.le_refl _) ?_; intro w1 ho1 hb1 hs1)
  have ho1' : Own w1 w.heap.size 4 (.slice (some ⟨w.heap.size, 0, none⟩) n n) (vb (fillTo (layF D 0) false n 0)) := by rw [fillTo_zero]; simpa [vb] using ho1
  clear ho1
  generalize (⟨w.heap.size, 0, none⟩ : Addr) = ad at *
  go_loopw [8, 31] (fun k i wr => ∃ j : Nat, j ≤ n ∧ i = .int .i64 j ∧ k = .int .i64 ((j - pwc j : Nat) : Int) ∧ Own wr w.heap.size 4 (.slice (some ad) n n) (vb (fillTo (layF D 0) false n j)) ∧ Below w.heap.size w wr) (fun _ i _ => n - (intOf i).toNat)
  case atStart => exact ⟨0, by omega, rfl, rfl, ho1', hb1⟩
  case round =>
    obtain ⟨j, hj, rfl, rfl, hown, hb⟩ := hrel
    by_cases hlt : j < n
    · have cp := fun w => hamm_power (j + 1) w (by omega) (by omega)
      have e1 : ((j + 1 : Nat) : Int) = (j : Int) + 1 := by omega
      rw [e1] at cp
      clear e1
      have hpw := pwc_le j
      have hpn : pwc (j + 1) = pwc j + if isPow (j + 1) then 1 else 0 := rfl
      cases hip : isPow (j + 1)
      · rw [hip] at cp hpn
        have hnp := np_lt hr2 hr4 hn.out hlt hip
        have hd : Hid (j + 1 - pwc (j + 1) = (j - pwc j) + 1) := by unfold Hid; rw [hpn]; simp; omega
        obtain ⟨d, hdd⟩ : ∃ d, d = j - pwc j := ⟨_, rfl⟩
        have hdm : d < m := by have := hm.out; omega
        obtain ⟨ad2, x, e, hbb, hx, hcx⟩ := (h.below hb).bool_at hdm
        subst e
        have hfx : layF D 0 j = x := by unfold layF; rw [hip]; simp only [Bool.false_eq_true, if_false, List.getD]; rw [← hdd, hx]; rfl
        have hfz := hown.frozenAt j
        have hcell := hown.cell (j := j) (by rw [List.getElem?_map, fillTo_at hlt]; rfl)
        have hset := hown.set j (.bool x)
        rw [vb_set, ← hfx, fillTo_next hlt, hfx] at hset
        have hbs := hb.trans (hown.setBelow (Nat.le_refl _) j (.bool x))
        rw [← hdd] at hd ⊢
        clear hdd hx hpn hnp hpw hfx
        have i1 : (0 : Int) ≤ (d : Int) := by omega
        have i2 : (d : Int) < (m : Int) := by omega
        go_wp2_with (go_at_call 50; refine (cp _).mono ?_; rintro e w' ⟨rfl, rfl⟩)
        go_roundw
        case rel => exact ⟨j + 1, by omega, by go_num, by rw [hd.out]; go_num, hset, hbs⟩
        case measure => simp only [intOf]; omega
      · rw [hip] at cp hpn
        have hd : Hid (j + 1 - pwc (j + 1) = j - pwc j) := by unfold Hid; rw [hpn]; simp
        have hfx : layF D 0 j = false := by unfold layF; rw [hip]; simp [bitB]
        have hsk : fillTo (layF D 0) false n (j + 1) = fillTo (layF D 0) false n j := by
          rw [← fillTo_next hlt, hfx]
          apply List.ext_getElem?
          intro k
          rw [List.getElem?_set]
          by_cases hk : j = k
          · subst hk; rw [if_pos rfl, fillTo_len, if_pos hlt, fillTo_at hlt, if_neg (by omega)]
          · rw [if_neg hk]
        have HSK := Lib.hid hsk
        clear hsk hfx hpn hpw
        go_wp2_with (go_at_call 50; refine (cp _).mono ?_; rintro e w' ⟨rfl, rfl⟩)
        go_roundw
        case rel => exact ⟨j + 1, by omega, by go_num, by rw [hd.out], by rw [HSK.out]; exact hown, hb⟩
        case measure => simp only [intOf]; omega
    · obtain rfl : j = n := by omega
      rw [fillTo_full] at hown
      have c1 := hamm_pointer (some ad) j j (layL D 0 j) p wr hown.reads hn15 hp
      have hown0 : Own wr w.heap.size 4 (.slice (some ad) j j) (vb ((List.range j).map (layG D p 0))) := by rw [layG_zero]; exact hown
      clear hown
      go_wp2_with (go_at_call 51; refine c1.mono ?_; rintro e w' ⟨rfl, rfl⟩)
      go_loopw [51] (fun i wi => ∃ k : Nat, k ≤ r ∧ i = .int .i64 k ∧ Own wi w.heap.size 4 (.slice (some ad) j j) (vb ((List.range j).map (layG D p k))) ∧ Below w.heap.size w wi) (fun i _ => r - (intOf i).toNat)
      case atStart => exact ⟨0, by omega, rfl, hown0, hb⟩
      case round =>
        obtain ⟨k, hk, rfl, hown, hb⟩ := hrel
        by_cases hlt2 : k < r
        · obtain ⟨q, hq⟩ : ∃ q, q + 1 = 2 ^ k := ⟨2 ^ k - 1, by have : 0 < 2 ^ k := Nat.pow_pos (by omega); omega⟩
          have hqn : q < j := by
            have h1 : 2 ^ k < 2 ^ r := Nat.pow_lt_pow_right (by omega) hlt2
            have := hn.out; omega
          have esk : wrap64 ((2 : Int) ^ k) = (q : Int) + 1 := by rw [wrap_pow k (by omega), ← hq]; omega
          have hbit : (bits .and .i64 ((p : Int) / 2 ^ k) 1 == 1) = bitB p k := by rw [bit_i64' p k (by omega)]; rfl
          have hfz := hown.frozenAt q
          have hcell := hown.cell (j := q) (by rw [List.getElem?_map, List.getElem?_map, List.getElem?_range hqn]; rfl)
          have hset := hown.set q (.bool (bitB p k))
          rw [vb_set, layG_next D p hn15 (by omega) hq hqn] at hset
          have hbs := hb.trans (hown.setBelow (Nat.le_refl _) q (.bool (bitB p k)))
          have i1 : (0 : Int) ≤ (q : Int) := Int.natCast_nonneg q
          have i2 : (q : Int) < (j : Int) := Int.ofNat_lt.2 hqn
          clear hq
          generalize bitB p k = bb at *
          go_wp2
          go_region
          all_goals go_wp2
          all_goals go_roundw
          case rel => exact ⟨k + 1, by omega, by go_num, hset.drew, hbs.drew⟩
          case measure => simp only [intOf]; omega
        · obtain rfl : k = r := by omega
          rw [layG_full D p hr2 hr4 hn.out] at hown
          go_wp2
          go_ret2
          exact ⟨some ad, j, j, rfl, hown, hb⟩
end Go.Proofs.Ytakpkllfoddalaa

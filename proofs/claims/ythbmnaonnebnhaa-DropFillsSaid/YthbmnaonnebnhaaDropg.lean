/-
  drop.ones, quipuref.Drops.
-/
import Derived.Test.YthbmnaonnebnhaaDropf
import Derived.Test.YthbmnaonnebnhaaInsert
import Derived.Test.YthbmnaonnebnhaaQuiet
set_option linter.unusedVariables false
namespace Go.Proofs.Ythbmnaonnebnhaa
open Go.RowKit

set_option maxHeartbeats 400000 in
theorem drop_ones (A : Option Addr) (n c : Nat) (l : List Bool) (w : World) {B : Nat} (h : Reads w B A n (vb l)) (hn : n ≤ 1000) :
    Calls Try.prog 64 #[.slice A n c] w (Ret w (.int .i64 (onesL l : Int))) := by
  have H := Lib.hid h.bool_len
  go_enter Try.func64, Try.ntmps64
  go_wp2
  go_loop [3, 8] (fun s i => ∃ k q : Nat, k ≤ n ∧ q ≤ k ∧ i = .int .i64 k ∧ s = .int .i64 q ∧ Hid (onesL (l.take k) = q)) (fun _ i => n - (intOf i).toNat)
  case atStart => exact ⟨0, 0, by omega, by omega, rfl, rfl, by simp [Hid, onesL]⟩
  case round =>
    obtain ⟨k, q, hk, hq, rfl, rfl, hs⟩ := hrel
    by_cases hlt : k < n
    · obtain ⟨ad, x, rfl, hb, hx, hc⟩ := h.bool_at hlt
      have HX := Lib.hid (onesL_next hx)
      clear hx
      cases x
      · have HS : Hid (onesL (l.take (k + 1)) = q) := by unfold Hid; rw [HX.out, hs.out]; rfl
        go_wp2
        go_round
        case rel => exact ⟨k + 1, q, by omega, by omega, by go_num, rfl, HS⟩
        case measure => simp [intOf]; omega
      · have HS : Hid (onesL (l.take (k + 1)) = q + 1) := by unfold Hid; rw [HX.out, hs.out]; rfl
        go_wp2
        go_round
        case rel => exact ⟨k + 1, q + 1, by omega, by omega, by go_num, by go_num, HS⟩
        case measure => simp [intOf]; omega
    · obtain rfl : k = n := by omega
      have h1 := hs.out
      rw [List.take_of_length_le (Nat.le_of_eq H.out)] at h1
      go_wp2
      go_ret
      exact ⟨rfl, rfl⟩
/-- the list with one bit more whose sum is a -/
def FillD (w : World) (a : Int) (l : List Bool) (e : Ending) (w' : World) : Prop :=
  ∃ (k0 : Nat) (b0 : Bool) (A : Option Addr) (n c : Nat), k0 ≤ l.length ∧ placesOf (insL l k0 b0) = a ∧ e = .returned (.tuple #[.slice A n c, .int .i64 0]) ∧ Reads w' w'.heap.size A n (vb (insL l k0 b0)) ∧ Below w.heap.size w w'
theorem tmod_bd (a m : Int) (hm : 0 < m) : -m < a.tmod m ∧ a.tmod m < m := by
  have h1 := Int.tmod_lt_of_pos a hm
  have h2 : (-a).tmod m < m := Int.tmod_lt_of_pos (-a) hm
  rw [Int.neg_tmod] at h2
  omega
theorem reads_one {w : World} {B n k m : Nat} {ad : Addr} {l : List Bool} {x : Bool} (h : Reads w B (some ad) n (vb l)) (hx : l[k]? = some x) (hm : m = 1) : Reads w B (some (ad.add k)) m (vb [x]) := by
  subst hm
  have hk : k < n := by have := h.bool_len; have := (List.getElem?_eq_some_iff.1 hx).1; omega
  refine ⟨rfl, fun _ => ?_⟩
  obtain ⟨ad', e, hb, hc⟩ := h.cells (by omega)
  injection e with e; subst e
  refine ⟨_, rfl, by rw [block_of_add]; exact hb, fun j u hu => ?_⟩
  have hj : j = 0 := by have := (List.getElem?_eq_some_iff.1 hu).1; simpa using this
  subst hj
  obtain rfl : u = .bool x := by simpa using hu.symm
  rw [add_of_add]
  exact hc (k + 0) _ (by rw [List.getElem?_map, Nat.add_zero, hx]; rfl)
theorem onesL_one (x : Bool) : onesL [x] = if x then 1 else 0 := by cases x <;> rfl
set_option maxRecDepth 100000 in
set_option maxHeartbeats 1600000 in
theorem drop_Fill (A : Option Addr) (n c y : Nat) (a W : Int) (l : List Bool) (w : World) (h : Reads w w.heap.size A n (vb l)) (hcap : n ≤ c) (hn : n ≤ 11) (h0 : 0 ≤ a) (h1 : a ≤ (n : Int) + 1) (hW : Hid (weighOf l = W)) (hy : Hid (lackOf a W ((n : Int) + 2) = (y : Int))) (hy1 : y ≤ n + 1) :
    Calls Try.prog 38 #[.int .i64 a, .slice A n c] w (FillD w a l) := by
  have H := Lib.hid h.bool_len
  have c1 := drop_weigh A n c l W w h (by omega) hW
  have c2 := drop_ones A n c l w h (by omega)
  have c3 := clone_bools A n c (vb l) w h (one_vbI l) (by omega)
  have hbd := weigh_bd l n (by rw [H.out]; omega)
  rw [List.take_of_length_le (Nat.le_of_eq H.out), hW.out] at hbd
  obtain ⟨W0, W1⟩ := hbd
  obtain ⟨r, hr⟩ : ∃ r, (a - W).tmod ((n : Int) + 1 + 1) = r := ⟨_, rfl⟩
  have hrb := tmod_bd (a - W) ((n : Int) + 1 + 1) (by omega)
  rw [hr] at hrb
  obtain ⟨r0, r1⟩ := hrb
  have e2 : (r + ((n : Int) + 1) + 1) % ((n : Int) + 1 + 1) = (y : Int) := by
    have := hy.out
    unfold lackOf at this
    rw [show (n : Int) + 2 = (n : Int) + 1 + 1 by omega, hr] at this
    rw [show r + ((n : Int) + 1) + 1 = r + ((n : Int) + 1 + 1) by omega]
    exact this
  have hPL : Hid (∀ (k : Nat) (b : Bool), k ≤ n → ovr l k b = y → placesOf (insL l k b) = a) := by
    intro k b hk ho
    rw [places_ins b (by rw [H.out]; exact hk), ho, hW.out, H.out, ← hy.out]
    exact lack_sum (by omega) h0 (by omega)
  have ho := ones_split l
  have hoL := onesL_le l
  rw [H.out] at hoL
  have HSPL := Lib.hid ho
  clear ho hy
  obtain ⟨o, hoo⟩ : ∃ o, onesL l = o := ⟨_, rfl⟩
  have HO := Lib.hid hoo
  rw [hoo] at c2 hoL
  clear hoo
  have d1 : decide ((12 : Int) < (n : Int) + 1) = false := decide_eq_false (by omega)
  have d2 : decide (a < 0) = false := decide_eq_false (by omega)
  have d3 : decide ((n : Int) + 1 < a) = false := decide_eq_false (by omega)
  have r2 : 0 ≤ r + ((n : Int) + 1) + 1 := by omega
  have r3 : r + ((n : Int) + 1) + 1 ≤ 100 := by omega
  have r4 : r + ((n : Int) + 1) ≤ 100 := by omega
  have r5 : -100 ≤ r + ((n : Int) + 1) := by omega
  by_cases hyo : y ≤ o
  · have j1 : (y : Int) ≤ (o : Int) := by omega
    go_enter Try.func38, Try.ntmps38
    go_wp2_with (first | (go_at_call 63; refine c1.mono ?_; clear c1; rintro e w' ⟨rfl, rfl⟩) | (go_at_call 64; refine c2.mono ?_; clear c2; rintro e w' ⟨rfl, rfl⟩))
    go_loop [7, 9] (fun lv av => ∃ k z : Nat, k ≤ n ∧ av = .int .i64 k ∧ lv = .int .i64 z ∧ z ≤ y ∧ Hid (z + onesL (l.drop k) = y)) (fun _ av => (intOf av).toNat)
    case atStart => exact ⟨n, y, by omega, rfl, rfl, by omega, by unfold Hid; rw [List.drop_eq_nil_of_le (by rw [H.out]; exact Nat.le_refl _)]; simp [onesL]⟩
    case round =>
      obtain ⟨k, z, hk, rfl, rfl, hzy, hz⟩ := hrel
      by_cases hz0 : 0 < z
      · have hk0 : 0 < k := by
          rcases Nat.eq_zero_or_pos k with h2 | h2
          · subst h2
            have := hz.out
            rw [List.drop_zero, HO.out] at this
            omega
          · exact h2
        obtain ⟨k, rfl⟩ : ∃ j, k = j + 1 := ⟨k - 1, by omega⟩
        obtain ⟨ad, x, rfl, hb, hx, hc⟩ := h.bool_at (k := k) (by omega)
        have cO := fun (m cc : Nat) (hm : m = 1) => drop_ones (some (ad.add k)) m cc [x] w (reads_one h hx hm) (by omega)
        have hdn : onesL (l.drop k) = (if x then 1 else 0) + onesL (l.drop (k + 1)) := by rw [drop_next hx]; rfl
        obtain ⟨qx, hqx⟩ : ∃ qx, onesL [x] = qx := ⟨_, rfl⟩
        rw [hqx] at cO
        have hqx1 : qx ≤ 1 := by rw [← hqx, onesL_one]; split <;> omega
        have hqz : qx ≤ z := by omega
        have HD : Hid ((z - qx) + onesL (l.drop k) = y) := by have := hz.out; unfold Hid; rw [hdn, ← onesL_one, hqx]; omega
        have k1 : ¬ c = k := by omega
        have k2 : (k : Int) ≤ (k : Int) + 1 := by omega
        have k3 : (k : Int) + 1 ≤ (c : Int) := by omega
        have k4 : k ≤ c := by omega
        have k5 : k + 1 ≤ c := by omega
        have k6 : ((k : Int) + 1).toNat = k + 1 := by omega
        have k7 : (0 : Int) ≤ (k : Int) := by omega
        have k8 : (0 : Int) < (z : Int) := by omega
        clear hx hdn hqx
        go_wp2_with (go_at_call 64; refine (cO _ _ (by omega)).mono ?_; clear cO; rintro e w' ⟨rfl, rfl⟩)
        go_round
        case rel => exact ⟨k, z - qx, by omega, rfl, by congr 1; omega, by omega, HD⟩
        case measure => simp [intOf]
      · obtain rfl : z = 0 := by omega
        have hPl := hPL.out k false hk (by unfold ovr; have := hz.out; simp at this ⊢; exact this)
        have HPl := Lib.hid hPl
        clear hPl hz0
        have i1 : ¬ (0 : Int) < 0 := by omega
        go_wp2_with (first
          | (go_at_call 66; refine c3.mono ?_; clear c3; rintro e w7 ⟨A7, n7, c7, rfl, ho7, hb7⟩; have c4 := insert_bools (.slice A7 n7 c7) w.heap.size n k l false w7 ho7 H.out hk (by omega) hb7.size)
          | (go_at_call 65; refine c4.mono ?_; clear c4; rintro e w8 ⟨A8, n8, c8, rfl, hr8, hb8⟩))
        go_ret2
        exact ⟨k, false, A8, n8, c8, by rw [H.out]; exact hk, HPl.out, rfl, hr8, hb7.trans hb8⟩
  · have j1 : ¬ (y : Int) ≤ (o : Int) := by omega
    have HZ := Lib.hid (zer_ones l)
    go_enter Try.func38, Try.ntmps38
    go_wp2_with (first | (go_at_call 63; refine c1.mono ?_; clear c1; rintro e w' ⟨rfl, rfl⟩) | (go_at_call 64; refine c2.mono ?_; clear c2; rintro e w' ⟨rfl, rfl⟩))
    go_loop [7, 10] (fun lv av => ∃ k z : Nat, k ≤ n ∧ av = .int .i64 k ∧ lv = .int .i64 z ∧ z ≤ y ∧ Hid (z + zerL (l.take k) + o + 1 = y)) (fun _ av => n - (intOf av).toNat)
    case atStart => exact ⟨0, y - o - 1, by omega, rfl, by congr 1; omega, by omega, by unfold Hid; simp [zerL, onesL]; omega⟩
    case round =>
      obtain ⟨k, z, hk, rfl, rfl, hzy, hz⟩ := hrel
      by_cases hz0 : 0 < z
      · have hk0 : k < n := by
          rcases Nat.lt_or_ge k n with h2 | h2
          · exact h2
          · have h3 := hz.out
            have h4 := HZ.out
            rw [List.take_of_length_le (by rw [H.out]; exact h2)] at h3
            rw [HO.out, H.out] at h4
            omega
        obtain ⟨ad, x, rfl, hb, hx, hc⟩ := h.bool_at (k := k) hk0
        have cO := fun (m cc : Nat) (hm : m = 1) => drop_ones (some (ad.add k)) m cc [x] w (reads_one h hx hm) (by omega)
        have hdn : zerL (l.take (k + 1)) = zerL (l.take k) + (1 - onesL [x]) := by
          rw [take_next hx]; unfold zerL; rw [List.map_append, onesL_append]; cases x <;> rfl
        obtain ⟨qx, hqx⟩ : ∃ qx, onesL [x] = qx := ⟨_, rfl⟩
        rw [hqx] at cO hdn
        have hqx1 : qx ≤ 1 := by rw [← hqx, onesL_one]; split <;> omega
        have HD : Hid ((z - (1 - qx)) + zerL (l.take (k + 1)) + o + 1 = y) := by have := hz.out; unfold Hid; rw [hdn]; omega
        have k1 : ¬ c = k := by omega
        have k2 : (k : Int) ≤ (k : Int) + 1 := by omega
        have k3 : (k : Int) + 1 ≤ (c : Int) := by omega
        have k4 : k ≤ c := by omega
        have k5 : k + 1 ≤ c := by omega
        have k6 : ((k : Int) + 1).toNat = k + 1 := by omega
        have k7 : (0 : Int) ≤ (k : Int) := by omega
        have k8 : (0 : Int) < (z : Int) := by omega
        clear hx hdn hqx
        go_wp2_with (go_at_call 64; refine (cO _ _ (by omega)).mono ?_; clear cO; rintro e w' ⟨rfl, rfl⟩)
        go_round
        case rel => exact ⟨k + 1, z - (1 - qx), by omega, by go_num, by congr 1; omega, by omega, HD⟩
        case measure => simp [intOf]; omega
      · obtain rfl : z = 0 := by omega
        have hPl := hPL.out k true hk (by unfold ovr; have := hz.out; have := HO.out; simp; omega)
        have HPl := Lib.hid hPl
        clear hPl hz0
        have i1 : ¬ (0 : Int) < 0 := by omega
        go_wp2_with (first
          | (go_at_call 66; refine c3.mono ?_; clear c3; rintro e w7 ⟨A7, n7, c7, rfl, ho7, hb7⟩; have c4 := insert_bools (.slice A7 n7 c7) w.heap.size n k l true w7 ho7 H.out hk (by omega) hb7.size)
          | (go_at_call 65; refine c4.mono ?_; clear c4; rintro e w8 ⟨A8, n8, c8, rfl, hr8, hb8⟩))
        go_ret2
        exact ⟨k, true, A8, n8, c8, by rw [H.out]; exact hk, HPl.out, rfl, hr8, hb7.trans hb8⟩
end Go.Proofs.Ythbmnaonnebnhaa

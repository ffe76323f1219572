import Derived.Test.YtfhpgiidcggobaaProg
import Derived.Test.YtfhpgiidcggobaaOwn
import Derived.Lib.BitFns
set_option linter.unusedVariables false
namespace Go.Proofs.Ytfhpgiidcggobaa
open Go.RowKit

/-! ### plain words -/
def bitN (b : Bool) : Nat := if b then 1 else 0
theorem bitN_le (b : Bool) : bitN b ≤ 1 := by cases b <;> simp [bitN]
/-- the number of the first k digits -/
def numF (l : List Bool) : Nat → Nat
  | 0 => 0
  | k + 1 => 2 * numF l k + bitN (l.getD k false)
theorem numF_lt (l : List Bool) (k : Nat) : numF l k < 2 ^ k := by
  induction k with
  | zero => simp [numF]
  | succ k ih => have := bitN_le (l.getD k false); rw [numF, Nat.pow_succ]; omega
theorem numF_ge (l : List Bool) (k : Nat) (h : l.getD 0 false = true) : 2 ^ k ≤ numF l (k + 1) := by
  induction k with
  | zero => rw [numF, h]; simp [numF, bitN]
  | succ k ih => rw [numF, Nat.pow_succ]; omega
theorem numF_next {l : List Bool} {k : Nat} {b : Bool} (h : l[k]? = some b) : numF l (k + 1) = 2 * numF l k + bitN b := by rw [numF, List.getD, h]; rfl
/-- how many zeros are ahead -/
def zN : List Bool → Nat
  | [] => 0
  | true :: _ => 0
  | false :: t => zN t + 1
theorem zN_le (l : List Bool) : zN l ≤ l.length := by
  induction l with
  | nil => simp [zN]
  | cons b l ih => cases b <;> simp [zN]; exact ih
theorem zN_at (l : List Bool) (h : zN l < l.length) : l[zN l]? = some true := by
  induction l with
  | nil => simp at h
  | cons b l ih =>
    cases b
    · simp only [zN, List.length_cons] at h ⊢; rw [List.getElem?_cons_succ]; exact ih (by omega)
    · simp [zN]
theorem zN_before (l : List Bool) (j : Nat) (h : j < zN l) : l[j]? = some false := by
  induction l generalizing j with
  | nil => simp [zN] at h
  | cons b l ih =>
    cases b
    · cases j with
      | zero => rfl
      | succ j => simp [zN] at h; rw [List.getElem?_cons_succ]; exact ih j h
    · simp [zN] at h
theorem zN_true {l : List Bool} {k : Nat} (hk : k ≤ zN l) (h : l[k]? = some true) : k = zN l := by
  rcases Nat.lt_or_ge k (zN l) with h1 | h1
  · have := zN_before l k h1; rw [h] at this; cases this
  · omega
theorem zN_false {l : List Bool} {k : Nat} (hk : k ≤ zN l) (h : l[k]? = some false) : k + 1 ≤ zN l := by
  rcases Nat.lt_or_ge k (zN l) with h1 | h1
  · omega
  · have hl := (List.getElem?_eq_some_iff.1 h).1
    have e : k = zN l := by omega
    subst e
    rw [zN_at l hl] at h; cases h
def subL (l : List Bool) (k m : Nat) : List Bool := (l.drop k).take m
theorem subL_len (l : List Bool) (k m : Nat) (h : k + m ≤ l.length) : (subL l k m).length = m := by unfold subL; simp; omega
theorem subL_at (l : List Bool) (k m j : Nat) (h : j < m) : (subL l k m)[j]? = l[k + j]? := by
  unfold subL; rw [List.getElem?_take, if_pos h, List.getElem?_drop]
theorem Reads.mid {w : World} {B n k m : Nat} {ad : Addr} {l : List Bool} (h : Reads w B (some ad) n (vb l)) (hk : k + m ≤ n) : Reads w B (some (ad.add k)) m (vb (subL l k m)) := by
  have hl := h.bool_len
  refine ⟨by rw [List.length_map, subL_len l k m (by omega)], fun hm => ?_⟩
  obtain ⟨ad', e, hb, hc⟩ := h.cells (by omega)
  injection e with e
  subst e
  refine ⟨_, rfl, by rw [block_of_add]; exact hb, fun j u hu => ?_⟩
  rw [add_of_add]
  apply hc
  rw [List.getElem?_map] at hu ⊢
  have hj : j < m := by
    obtain ⟨b, hb2, _⟩ := Option.map_eq_some_iff.1 hu
    have := (List.getElem?_eq_some_iff.1 hb2).1
    rw [subL_len l k m (by omega)] at this; exact this
  rw [← subL_at l k m j hj]; exact hu
/-- what a gamma at the beginning tells -/
def gamN (l : List Bool) : Nat := numF (subL l (zN l) (zN l + 1)) (zN l + 1)
def rdR (l : List Bool) (n most : Nat) : Nat × Nat := if 2 * zN l + 1 ≤ n ∧ zN l ≤ 30 ∧ gamN l ≤ most then (gamN l, 2 * zN l + 1) else (0, 0)
theorem gamN_ge {l : List Bool} (h : zN l < l.length) : 2 ^ zN l ≤ gamN l := by
  unfold gamN
  refine numF_ge _ _ ?_
  rw [List.getD, subL_at _ _ _ _ (by omega), Nat.add_zero, zN_at l h]; rfl
theorem gamN_lt (l : List Bool) : gamN l < 2 ^ (zN l + 1) := numF_lt _ _

set_option maxHeartbeats 400000 in
theorem elias_number (A : Option Addr) (n c : Nat) (l : List Bool) (w : World) {B : Nat} (h : Reads w B A n (vb l)) (hn : n ≤ 40) :
    Calls Try.prog 64 #[.slice A n c] w (Ret w (.int .i64 (numF l n : Int))) := by
  go_enter Try.func64, Try.ntmps64
  go_wp2
  go_loop [3, 8] (fun s i => ∃ k : Nat, k ≤ n ∧ i = .int .i64 k ∧ s = .int .i64 (numF l k : Int)) (fun _ i => n - (intOf i).toNat)
  case atStart => exact ⟨0, by omega, rfl, rfl⟩
  case round =>
    obtain ⟨k, hk, rfl, rfl⟩ := hrel
    by_cases hlt : k < n
    · obtain ⟨ad, b, rfl, hb, hx, hc⟩ := h.bool_at hlt
      have HN := Lib.hid (numF_next hx)
      have hlt2 := numF_lt l k
      have hp : 2 ^ k ≤ 2 ^ 40 := Nat.pow_le_pow_right (by omega) (by omega)
      clear hx
      generalize numF l k = q at *
      cases b
      all_goals
        go_wp2
        go_round
        case rel => exact ⟨k + 1, by omega, by go_num, by rw [HN.out]; simp [bitN]; omega⟩
        case measure => simp [intOf]; omega
    · obtain rfl : k = n := by omega
      go_wp2
      go_ret
      exact ⟨rfl, rfl⟩
set_option maxHeartbeats 400000 in
theorem ref_number (A : Option Addr) (n c : Nat) (l : List Bool) (w : World) {B : Nat} (h : Reads w B A n (vb l)) (hn : n ≤ 40) :
    Calls Try.prog 44 #[.slice A n c] w (Ret w (.int .i64 (numF l n : Int))) := by
  go_enter Try.func44, Try.ntmps44
  go_wp2
  go_loop [3, 8] (fun s i => ∃ k : Nat, k ≤ n ∧ i = .int .i64 k ∧ s = .int .i64 (numF l k : Int)) (fun _ i => n - (intOf i).toNat)
  case atStart => exact ⟨0, by omega, rfl, rfl⟩
  case round =>
    obtain ⟨k, hk, rfl, rfl⟩ := hrel
    by_cases hlt : k < n
    · obtain ⟨ad, b, rfl, hb, hx, hc⟩ := h.bool_at hlt
      have HN := Lib.hid (numF_next hx)
      have hlt2 := numF_lt l k
      have hp : 2 ^ k ≤ 2 ^ 40 := Nat.pow_le_pow_right (by omega) (by omega)
      clear hx
      generalize numF l k = q at *
      cases b
      all_goals
        go_wp2
        go_round
        case rel => exact ⟨k + 1, by omega, by go_num, by rw [HN.out]; simp [bitN]⟩
        case measure => simp [intOf]; omega
    · obtain rfl : k = n := by omega
      go_wp2
      go_ret
      exact ⟨rfl, rfl⟩
set_option maxHeartbeats 400000 in
theorem slices_IndexT (A : Option Addr) (n c : Nat) (l : List Bool) (r : Int) (w : World) {B : Nat} (h : Reads w B A n (vb l)) (hn : n ≤ maxLen) (hr : Hid ((if zN l < n then (zN l : Int) else -1) = r)) :
    Calls Try.prog 68 #[.slice A n c, .bool true] w (Ret w (.int .i64 r)) := by
  have H := Lib.hid h.bool_len
  have HZ := Lib.hid (zN_le l)
  unfold maxLen at hn
  go_enter Try.func68, Try.ntmps68
  go_wp2
  go_loop [5, 8] (fun a i => ∃ k : Nat, k ≤ zN l ∧ i = .int .i64 k) (fun _ i => n - (intOf i).toNat)
  case atStart => exact ⟨0, by omega, rfl⟩
  case round =>
    obtain ⟨k, hk, rfl⟩ := hrel
    by_cases hlt : k < n
    · obtain ⟨ad, b, rfl, hb, hx, hc⟩ := h.bool_at hlt
      cases b
      · have hk2 := zN_false hk hx
        clear hx
        go_wp2
        go_round
        case rel => exact ⟨k + 1, hk2, by go_num⟩
        case measure => simp [intOf]; omega
      · have HE := Lib.hid (zN_true hk hx)
        have HR : Hid (r = (k : Int)) := by unfold Hid; rw [← hr.out, if_pos (by rw [← HE.out]; exact hlt), ← HE.out]
        clear hx
        go_wp2
        go_ret
        exact ⟨ret_i HR.out.symm, rfl⟩
    · have HR : Hid (r = -1) := by
        have h1 := HZ.out
        have h2 := H.out
        unfold Hid; rw [← hr.out, if_neg (by omega)]
      have hkn : k = n := by have h1 := HZ.out; have h2 := H.out; omega
      subst hkn
      go_wp2
      go_ret
      exact ⟨ret_i HR.out.symm, rfl⟩
theorem rdR_no {l : List Bool} {n most : Nat} (h : ¬ (2 * zN l + 1 ≤ n ∧ zN l ≤ 30 ∧ gamN l ≤ most)) : rdR l n most = (0, 0) := by unfold rdR; rw [if_neg h]
set_option maxHeartbeats 600000 in
theorem elias_read (A : Option Addr) (n c : Nat) (l : List Bool) (most a b : Nat) (w : World) {B : Nat} (h : Reads w B A n (vb l)) (hn : n ≤ 140737488355328) (hcap : n ≤ c) (hr : Hid (rdR l n most = (a, b))) :
    Calls Try.prog 43 #[.slice A n c, .int .i64 (most : Int)] w (Ret w (.tuple #[.int .i64 (a : Int), .int .i64 (b : Int)])) := by
  have H := h.bool_len
  have ci := slices_IndexT A n c l (if zN l < n then (zN l : Int) else -1) w h (by unfold maxLen; omega) rfl
  by_cases h1 : zN l < n
  · rw [if_pos h1] at ci
    by_cases h2 : 30 < zN l
    · have hz := hr.out
      rw [rdR_no (by omega)] at hz
      injection hz with e1 e2
      subst e1
      subst e2
      clear hr
      generalize zN l = k at *
      go_enter Try.func43, Try.ntmps43
      go_wp2_with (go_at_call 68; refine ci.mono ?_; rintro e w' ⟨rfl, rfl⟩)
      go_ret2
      exact ⟨rfl, rfl⟩
    · by_cases h3 : n < 2 * zN l + 1
      · have hz := hr.out
        rw [rdR_no (by omega)] at hz
        injection hz with e1 e2
        subst e1
        subst e2
        clear hr
        generalize zN l = k at *
        have h4 : (n : Int) < 2 * (k : Int) + 1 := by omega
        go_enter Try.func43, Try.ntmps43
        go_wp2_with (go_at_call 68; refine ci.mono ?_; rintro e w' ⟨rfl, rfl⟩)
        go_ret2
        exact ⟨rfl, rfl⟩
      · obtain ⟨ad, e, _⟩ := h.cells (by omega)
        subst e
        have hm := h.mid (k := zN l) (m := zN l + 1) (by omega)
        have cn := fun q => elias_number (some (ad.add (zN l))) (zN l + 1) q (subL l (zN l) (zN l + 1)) w hm (by omega)
        have HG : Hid (gamN l = numF (subL l (zN l) (zN l + 1)) (zN l + 1)) := rfl
        rw [← HG.out] at cn
        have hz := hr.out
        unfold rdR at hz
        generalize gamN l = g at *
        generalize zN l = k at *
        have h4 : ¬ (n : Int) < 2 * (k : Int) + 1 := by omega
        obtain ⟨hi, hhi⟩ : ∃ hi : Nat, hi = 2 * k + 1 := ⟨_, rfl⟩
        have ehi : 2 * (k : Int) + 1 = (hi : Int) := by omega
        have esz : hi - k = k + 1 := by omega
        have hhic : hi ≤ c := by omega
        have hkhi : k ≤ hi := by omega
        have hkc : k < c := by omega
        have ek1 : ((k + 1 : Nat) : Int) = (k : Int) + 1 := by omega
        by_cases h5 : g ≤ most
        · rw [if_pos ⟨by omega, by omega, h5⟩] at hz
          injection hz with e1 e2
          subst e1
          have h6 : ¬ (most : Int) < (g : Int) := by omega
          have HB : Hid ((hi : Int) = (b : Int)) := by unfold Hid; omega
          clear hr h5 hm HG hhi e2
          go_enter Try.func43, Try.ntmps43
          go_wp2_with (first | (go_at_call 68; refine ci.mono ?_; rintro e w' ⟨rfl, rfl⟩) | (go_at_call 64; refine (cn _).mono ?_; rintro e w' ⟨rfl, rfl⟩))
          go_ret2
          exact ⟨ret_ii (by rw [HB.out]), rfl⟩
        · rw [if_neg (by omega)] at hz
          injection hz with e1 e2
          subst e1
          subst e2
          have h6 : (most : Int) < (g : Int) := by omega
          clear hr h5 hm HG hhi
          go_enter Try.func43, Try.ntmps43
          go_wp2_with (first | (go_at_call 68; refine ci.mono ?_; rintro e w' ⟨rfl, rfl⟩) | (go_at_call 64; refine (cn _).mono ?_; rintro e w' ⟨rfl, rfl⟩))
          go_ret2
          exact ⟨rfl, rfl⟩
  · rw [if_neg h1] at ci
    have hz := hr.out
    rw [rdR_no (by omega)] at hz
    injection hz with e1 e2
    subst e1
    subst e2
    clear hr
    go_enter Try.func43, Try.ntmps43
    go_wp2_with (go_at_call 68; refine ci.mono ?_; rintro e w' ⟨rfl, rfl⟩)
    go_ret2
    exact ⟨rfl, rfl⟩
end Go.Proofs.Ytfhpgiidcggobaa

import Derived.Test.YtbkgbmnnnlpefaaWords
set_option linter.unusedVariables false
namespace Go.Proofs.Ytbkgbmnnnlpefaa
open Go.RowKit

/-! ### how many words of n bits have k set: plain numbers -/
def chL (n : Nat) : Nat → Nat
  | 0 => 1
  | i + 1 => chL n i * (n - i) / (i + 1)
def binom : Nat → Nat → Nat
  | _, 0 => 1
  | 0, _ + 1 => 0
  | n + 1, k + 1 => binom n (k + 1) + binom n k
theorem chL_binom : ∀ n k : Fin 13, k ≤ n → chL n.val k.val = binom n.val k.val := by decide +kernel
theorem chL_bd : ∀ n k : Fin 13, k ≤ n → chL n.val k.val ≤ 924 := by decide +kernel
theorem binom_zero {n k : Nat} (h : n < k) : binom n k = 0 := by
  induction n generalizing k with
  | zero => cases k with
    | zero => omega
    | succ k => rfl
  | succ n ih => cases k with
    | zero => omega
    | succ k => rw [binom, ih (by omega), ih (by omega)]
def chI (n : Nat) (k : Int) : Int := if k < 0 ∨ (n : Int) < k then 0 else chL n k.toNat
theorem chI_binom {n k : Nat} (hn : n ≤ 12) : chI n k = binom n k := by
  unfold chI
  split
  · rw [binom_zero (by omega)]; rfl
  · have := chL_binom ⟨n, by omega⟩ ⟨k, by omega⟩ (by simp [Fin.le_def]; omega)
    simp only at this
    rw [Int.toNat_natCast, this]

def popsL : Nat → List Nat
  | 0 => [0]
  | n + 1 => popsL n ++ (popsL n).map (· + 1)
theorem pop_top {n x : Nat} (hn : n < 32) (hx : x < 2 ^ n) : pop (2 ^ n + x) = pop x + 1 := by
  have hp : 0 < 2 ^ n := Nat.pow_pos (by omega)
  have z : ∀ f, Lib.popAux f 0 = 0 := by
    intro f; induction f with
    | zero => rfl
    | succ f ih => rw [Lib.popAux]; simpa using ih
  obtain ⟨m, hm⟩ : ∃ m, 32 = n + (m + 1) := ⟨31 - n, by omega⟩
  have e1 : Lib.popAux 32 (2 ^ n + x) = Lib.popAux n x + 1 := by
    rw [hm, popAux_add, ← popAux_mod n (2 ^ n + x), Nat.add_mod_left, Nat.mod_eq_of_lt hx, Nat.add_div_left _ hp, Nat.div_eq_of_lt hx]
    show _ + Lib.popAux (m + 1) 1 = _
    rw [Lib.popAux, z]
  have e2 : Lib.popAux 32 x = Lib.popAux n x := by
    rw [hm, popAux_add, Nat.div_eq_of_lt hx, z]; omega
  unfold pop; omega
theorem popsL_eq (n : Nat) (hn : n ≤ 31) : popsL n = (List.range (2 ^ n)).map pop := by
  induction n with
  | zero => rfl
  | succ n ih =>
    have e : List.range (2 ^ (n + 1)) = List.range (2 ^ n) ++ (List.range (2 ^ n)).map (2 ^ n + ·) := by
      rw [Nat.pow_succ, Nat.mul_two, List.range_add]
    rw [e, popsL, ih (by omega), List.map_append, List.map_map, List.map_map]
    refine congrArg (_ ++ ·) (List.map_congr_left ?_)
    intro x hx
    simp only [Function.comp]
    rw [pop_top (by omega) (List.mem_range.1 hx)]
def cnt (l : List Nat) (k : Int) : Nat := (l.filter fun w => decide ((pop w : Int) = k)).length
theorem cnt_next (j : Nat) (k : Int) : cnt (List.range (j + 1)) k = cnt (List.range j) k + if (pop j : Int) = k then 1 else 0 := by
  unfold cnt
  rw [List.range_succ, List.filter_append, List.length_append]
  by_cases h : (pop j : Int) = k <;> simp [h]
theorem cnt_le (j : Nat) (k : Int) : cnt (List.range j) k ≤ j := by
  have := List.length_filter_le (fun w => decide ((pop w : Int) = k)) (List.range j)
  simpa [cnt] using this
theorem popsL_cnt (n k : Nat) : ((popsL n).filter fun p : Nat => decide ((p : Int) = (k : Int))).length = binom n k := by
  induction n generalizing k with
  | zero =>
    cases k with
    | zero => rfl
    | succ k => simp [popsL, binom]; omega
  | succ n ih =>
    rw [popsL, List.filter_append, List.length_append, ih]
    cases k with
    | zero =>
      have : ((popsL n).map (· + 1)).filter (fun p : Nat => decide ((p : Int) = ((0 : Nat) : Int))) = [] := by
        rw [List.filter_eq_nil_iff]; intro p hp; obtain ⟨q, _, rfl⟩ := List.mem_map.1 hp; simp; omega
      rw [this]; simp [binom]
    | succ k =>
      rw [binom, ← ih k, List.filter_map, List.length_map]
      congr 2
      apply List.filter_congr
      intro p _
      simp only [Function.comp]
      congr 1
      apply propext; omega
theorem cnt_map (L : List Nat) (k : Int) : cnt L k = ((L.map pop).filter fun p : Nat => decide ((p : Int) = k)).length := by
  unfold cnt; rw [List.filter_map, List.length_map]; rfl
theorem cnt_all (n k : Nat) (hn : n ≤ 12) : cnt (List.range (2 ^ n)) k = binom n k := by
  rw [cnt_map, ← popsL_eq n (by omega), popsL_cnt]

/-! ### the walks -/
set_option maxHeartbeats 400000 in
theorem rank_choose (n : Nat) (k : Int) (b : Int) (w : World) (hn : n ≤ 12) (hr : Hid (chI n k = b)) :
    Calls Try.prog 50 #[.int .i64 (n : Int), .int .i64 k] w (Ret w (.int .i64 b)) := by
  by_cases hk : k < 0 ∨ (n : Int) < k
  · have E : Hid (chI n k = 0) := by simp [Hid, chI, hk]
    by_cases h0 : k < 0
    all_goals
      go_enter Try.func50, Try.ntmps50
      go_wp2
      go_ret
      exact ⟨ret_i (by rw [← hr.out, E.out]), rfl⟩
  · obtain ⟨k, rfl⟩ := Int.eq_ofNat_of_zero_le (a := k) (by omega)
    have E : Hid (chI n k = chL n k) := by unfold Hid chI; rw [if_neg hk, Int.toNat_natCast]
    have hkn : k ≤ n := by omega
    clear hk
    go_enter Try.func50, Try.ntmps50
    go_wp2
    go_loop [5, 15] (fun x i => ∃ j : Nat, j ≤ k ∧ i = .int .i64 j ∧ x = .int .i64 (chL n j)) (fun _ i => k - (intOf i).toNat)
    case atStart => exact ⟨0, by omega, rfl, rfl⟩
    case round =>
      obtain ⟨j, hj, rfl, rfl⟩ := hrel
      by_cases hlt : j < k
      · have hb := chL_bd ⟨n, by omega⟩ ⟨j, by omega⟩ (by simp [Fin.le_def]; omega)
        simp only at hb
        have p1 : (0 : Int) ≤ (chL n j : Int) * ((n : Int) - j) := Int.mul_nonneg (by omega) (by omega)
        have p2 : (chL n j : Int) * ((n : Int) - j) ≤ 924 * 12 := Int.mul_le_mul (by omega) (by omega) (by omega) (by omega)
        have HN : Hid (((chL n (j + 1) : Nat) : Int) = (chL n j : Int) * ((n : Int) - j) / ((j : Int) + 1)) := by
          unfold Hid
          rw [chL, Int.natCast_ediv, Int.natCast_mul, Int.ofNat_sub (by omega)]; rfl
        go_wp2
        go_round
        case rel => exact ⟨j + 1, by omega, by go_num, by rw [HN.out]⟩
        case measure => simp [intOf]; omega
      · obtain rfl : j = k := by omega
        go_wp2
        go_ret
        exact ⟨ret_i (by rw [← hr.out, E.out]), rfl⟩
set_option maxHeartbeats 400000 in
theorem ref_Many (n below : Nat) (k : Int) (b : Int) (w : World) (hn : n ≤ 12) (hbl : below < 4294967296) (hr : Hid ((cnt (List.range (min below (2 ^ n))) k : Int) = b)) :
    Calls Try.prog 28 #[.int .i64 (n : Int), .int .i64 k, .int .u32 (below : Int)] w (Ret w (.int .i64 b)) := by
  obtain ⟨p, hp⟩ : ∃ p, p = 2 ^ n := ⟨_, rfl⟩
  rw [← hp] at hr
  have hp12 := pow_le12 hn
  have es := shl_int hn
  rw [← hp] at es hp12
  have HP := Lib.hid hp
  clear hp
  go_enter Try.func28, Try.ntmps28
  go_wp2
  go_loop [7, 8] (fun m v => ∃ j : Nat, j ≤ below ∧ j ≤ p ∧ v = .int .u32 j ∧ m = .int .i64 (cnt (List.range j) k)) (fun _ v => p - (intOf v).toNat)
  case atStart => exact ⟨0, by omega, by omega, rfl, rfl⟩
  case round =>
    obtain ⟨j, h1, h2, rfl, rfl⟩ := hrel
    by_cases hlt : j < below ∧ j < p
    · obtain ⟨hl1, hl2⟩ := hlt
      have c := ref_Size j w (by omega)
      have hc := cnt_le j k
      have HN := Lib.hid (cnt_next j k)
      generalize pop j = q at *
      by_cases hq : (q : Int) = k
      · have hqb : ((q : Int) == k) = true := by simpa using hq
        have HN' : Hid (cnt (List.range (j + 1)) k = cnt (List.range j) k + 1) := by have := HN.out; rw [if_pos hq] at this; exact this
        clear hq HN
        go_wp2_with (go_at_call 29; refine c.mono ?_; rintro e w' ⟨rfl, rfl⟩)
        go_round
        case rel => exact ⟨j + 1, by omega, by omega, by go_num, by rw [HN'.out]; go_num⟩
        case measure => simp [intOf]; omega
      · have hqb : ((q : Int) == k) = false := by simpa using hq
        have HN' : Hid (cnt (List.range (j + 1)) k = cnt (List.range j) k) := by have := HN.out; rw [if_neg hq] at this; exact this
        clear hq HN
        go_wp2_with (go_at_call 29; refine c.mono ?_; rintro e w' ⟨rfl, rfl⟩)
        go_round
        case rel => exact ⟨j + 1, by omega, by omega, by go_num, by rw [HN'.out]⟩
        case measure => simp [intOf]; omega
    · have HE : Hid (j = min below p) := by unfold Hid; omega
      by_cases hl1 : j < below
      · have hl2 : ¬ j < p := by omega
        clear hlt
        go_wp2
        go_ret
        exact ⟨ret_i (by rw [← hr.out, ← HE.out]), rfl⟩
      · clear hlt
        go_wp2
        go_ret
        exact ⟨ret_i (by rw [← hr.out, ← HE.out]), rfl⟩
def andErr (n k : Int) : Int := if n < 0 ∨ 12 < n then 1 else if k < 0 ∨ n < k then 4 else 0
set_option maxHeartbeats 400000 in
theorem law_bitsAnd (n k : Int) (b : Int) (w : World) (hr : Hid (andErr n k = b)) :
    Calls Try.prog 36 #[.int .i64 n, .int .i64 k] w (Ret w (.int .i64 b)) := by
  have c := fun b hb => ref_BitsCheck n none 0 0 [] b w (Reads.none_) hb (by unfold maxLen; omega) (by simp)
  by_cases hn : n < 0 ∨ 12 < n
  · have c1 := c 1 (bitsErr_n [] hn)
    have E : Hid (andErr n k = 1) := by simp [Hid, andErr, hn]
    clear c hn
    go_enter Try.func36, Try.ntmps36
    go_wp2_with (go_at_call 24; refine c1.mono ?_; rintro e w' ⟨rfl, rfl⟩)
    go_ret
    exact ⟨ret_i (by rw [← hr.out, E.out]), rfl⟩
  · have c1 := c 0 (by simp [Hid, bitsErr, hn])
    clear c
    by_cases hk : k < 0 ∨ n < k
    · have E : Hid (andErr n k = 4) := by simp [Hid, andErr, hn, hk]
      clear hn
      by_cases h0 : k < 0
      all_goals
        go_enter Try.func36, Try.ntmps36
        go_wp2_with (go_at_call 24; refine c1.mono ?_; rintro e w' ⟨rfl, rfl⟩)
        go_ret
        exact ⟨ret_i (by rw [← hr.out, E.out]), rfl⟩
    · have E : Hid (andErr n k = 0) := by simp [Hid, andErr, hn, hk]
      have h0 : ¬ k < 0 := by omega
      have h1 : ¬ n < k := by omega
      clear hn hk
      go_enter Try.func36, Try.ntmps36
      go_wp2_with (go_at_call 24; refine c1.mono ?_; rintro e w' ⟨rfl, rfl⟩)
      go_ret
      exact ⟨ret_i (by rw [← hr.out, E.out]), rfl⟩

theorem andErr_ok {n k : Int} (h : andErr n k = 0) : ∃ n' k' : Nat, n = n' ∧ k = k' ∧ n' ≤ 12 ∧ k' ≤ n' := by
  unfold andErr at h
  split at h
  · omega
  · split at h
    · omega
    · exact ⟨n.toNat, k.toNat, by omega, by omega, by omega, by omega⟩
def manyRes (n k : Int) : Int × Int := if andErr n k = 0 then (binom n.toNat k.toNat, 0) else (0, andErr n k)
set_option maxHeartbeats 400000 in
theorem rank_Many (n k : Int) (a b : Int) (w : World) (hr : Hid (manyRes n k = (a, b))) :
    Calls Try.prog 54 #[.int .i64 n, .int .i64 k] w (Ret w (.tuple #[.int .i64 a, .int .i64 b])) := by
  by_cases hn : n < 0 ∨ 12 < n
  · have E : Hid (manyRes n k = (0, 1)) := by simp [Hid, manyRes, andErr, hn]
    by_cases h0 : n < 0
    all_goals
      go_enter Try.func54, Try.ntmps54
      go_wp2
      go_ret2
      exact ⟨ret_ii (by rw [← hr.out, E.out]), rfl⟩
  · by_cases hk : k < 0 ∨ n < k
    · have E : Hid (manyRes n k = (0, 4)) := by simp [Hid, manyRes, andErr, hn, hk]
      have h1 : 0 ≤ n := by omega
      have h2 : n ≤ 12 := by omega
      clear hn
      by_cases h0 : k < 0
      all_goals
        go_enter Try.func54, Try.ntmps54
        go_wp2
        go_ret2
        exact ⟨ret_ii (by rw [← hr.out, E.out]), rfl⟩
    · have h0 : andErr n k = 0 := by simp [andErr, hn, hk]
      obtain ⟨n, k, rfl, rfl, h1, h2⟩ := andErr_ok h0
      have E : Hid (manyRes n k = (((binom n k : Nat) : Int), 0)) := by simp [Hid, manyRes, h0]
      have c := rank_choose n k (binom n k) w h1 (chI_binom h1)
      clear h0 hn hk
      go_enter Try.func54, Try.ntmps54
      go_wp2_with (go_at_call 50; refine c.mono ?_; rintro e w' ⟨rfl, rfl⟩)
      go_ret2
      exact ⟨ret_ii (by rw [← hr.out, E.out]), rfl⟩

end Go.Proofs.Ytbkgbmnnnlpefaa

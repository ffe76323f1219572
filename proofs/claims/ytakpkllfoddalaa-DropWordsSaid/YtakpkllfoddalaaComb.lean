import Derived.Test.YtakpkllfoddalaaWords
set_option linter.unusedVariables false
namespace Go.Proofs.Ytakpkllfoddalaa
open Go.RowKit

/-! ### how many words of n bits have k set: plain numbers -/
def chL (n : Nat) : Nat → Nat
  | 0 => 1
  | i + 1 => chL n i * (n - i) / (i + 1)
def binom : Nat → Nat → Nat
  | _, 0 => 1
  | 0, _ + 1 => 0
  | n + 1, k + 1 => binom n (k + 1) + binom n k
theorem chL_binom : ∀ n k : Fin 13, k ≤ n → chL n.val k.val = binom n.val k.val := by decide +kernel
theorem chL_bd : ∀ n k : Fin 13, k ≤ n → chL n.val k.val ≤ 924 := by decide +kernel
theorem binom_zero {n k : Nat} (h : n < k) : binom n k = 0 := by
  induction n generalizing k with
  | zero => cases k with
    | zero => omega
    | succ k => rfl
  | succ n ih => cases k with
    | zero => omega
    | succ k => rw [binom, ih (by omega), ih (by omega)]
def chI (n : Nat) (k : Int) : Int := if k < 0 ∨ (n : Int) < k then 0 else chL n k.toNat
theorem chI_binom {n k : Nat} (hn : n ≤ 12) : chI n k = binom n k := by
  unfold chI
  split
  · rw [binom_zero (by omega)]; rfl
  · have := chL_binom ⟨n, by omega⟩ ⟨k, by omega⟩ (by simp [Fin.le_def]; omega)
    simp only at this
    rw [Int.toNat_natCast, this]

def popsL : Nat → List Nat
  | 0 => [0]
  | n + 1 => popsL n ++ (popsL n).map (· + 1)
theorem pop_top {n x : Nat} (hn : n < 32) (hx : x < 2 ^ n) : pop (2 ^ n + x) = pop x + 1 := by
  have hp : 0 < 2 ^ n := Nat.pow_pos (by omega)
  have z : ∀ f, Lib.popAux f 0 = 0 := by
    intro f; induction f with
    | zero => rfl
    | succ f ih => rw [Lib.popAux]; simpa using ih
  obtain ⟨m, hm⟩ : ∃ m, 32 = n + (m + 1) := ⟨31 - n, by omega⟩
  have e1 : Lib.popAux 32 (2 ^ n + x) = Lib.popAux n x + 1 := by
    rw [hm, popAux_add, ← popAux_mod n (2 ^ n + x), Nat.add_mod_left, Nat.mod_eq_of_lt hx, Nat.add_div_left _ hp, Nat.div_eq_of_lt hx]
    show _ + Lib.popAux (m + 1) 1 = _
    rw [Lib.popAux, z]
  have e2 : Lib.popAux 32 x = Lib.popAux n x := by
    rw [hm, popAux_add, Nat.div_eq_of_lt hx, z]; omega
  unfold pop; omega
theorem popsL_eq (n : Nat) (hn : n ≤ 31) : popsL n = (List.range (2 ^ n)).map pop := by
  induction n with
  | zero => rfl
  | succ n ih =>
    have e : List.range (2 ^ (n + 1)) = List.range (2 ^ n) ++ (List.range (2 ^ n)).map (2 ^ n + ·) := by
      rw [Nat.pow_succ, Nat.mul_two, List.range_add]
    rw [e, popsL, ih (by omega), List.map_append, List.map_map, List.map_map]
    refine congrArg (_ ++ ·) (List.map_congr_left ?_)
    intro x hx
    simp only [Function.comp]
    rw [pop_top (by omega) (List.mem_range.1 hx)]
def cnt (l : List Nat) (k : Int) : Nat := (l.filter fun w => decide ((pop w : Int) = k)).length
theorem cnt_next (j : Nat) (k : Int) : cnt (List.range (j + 1)) k = cnt (List.range j) k + if (pop j : Int) = k then 1 else 0 := by
  unfold cnt
  rw [List.range_succ, List.filter_append, List.length_append]
  by_cases h : (pop j : Int) = k <;> simp [h]
theorem cnt_le (j : Nat) (k : Int) : cnt (List.range j) k ≤ j := by
  have := List.length_filter_le (fun w => decide ((pop w : Int) = k)) (List.range j)
  simpa [cnt] using this
theorem popsL_cnt (n k : Nat) : ((popsL n).filter fun p : Nat => decide ((p : Int) = (k : Int))).length = binom n k := by
  induction n generalizing k with
  | zero =>
    cases k with
    | zero => rfl
    | succ k => simp [popsL, binom]; omega
  | succ n ih =>
    rw [popsL, List.filter_append, List.length_append, ih]
    cases k with
    | zero =>
      have : ((popsL n).map (· + 1)).filter (fun p : Nat => decide ((p : Int) = ((0 : Nat) : Int))) = [] := by
        rw [List.filter_eq_nil_iff]; intro p hp; obtain ⟨q, _, rfl⟩ := List.mem_map.1 hp; simp; omega
      rw [this]; simp [binom]
    | succ k =>
      rw [binom, ← ih k, List.filter_map, List.length_map]
      congr 2
      apply List.filter_congr
      intro p _
      simp only [Function.comp]
      congr 1
      apply propext; omega
theorem cnt_map (L : List Nat) (k : Int) : cnt L k = ((L.map pop).filter fun p : Nat => decide ((p : Int) = k)).length := by
  unfold cnt; rw [List.filter_map, List.length_map]; rfl
theorem cnt_all (n k : Nat) (hn : n ≤ 12) : cnt (List.range (2 ^ n)) k = binom n k := by
  rw [cnt_map, ← popsL_eq n (by omega), popsL_cnt]

/-! ### the walks -/
def andErr (n k : Int) : Int := if n < 0 ∨ 12 < n then 1 else if k < 0 ∨ n < k then 4 else 0
set_option maxHeartbeats 400000 in
theorem law_bitsAnd (n k : Int) (b : Int) (w : World) (hr : Hid (andErr n k = b)) :
    Calls Try.prog 16 #[.int .i64 n, .int .i64 k] w (Ret w (.int .i64 b)) := by
  have c := fun b hb => ref_BitsCheck n none 0 0 [] b w (Reads.none_) hb (by unfold maxLen; omega) (by simp)
  by_cases hn : n < 0 ∨ 12 < n
  · have c1 := c 1 (bitsErr_n [] hn)
    have E : Hid (andErr n k = 1) := by simp [Hid, andErr, hn]
    clear c hn
    go_enter Try.func16, Try.ntmps16
    go_wp2_with (go_at_call 46; refine c1.mono ?_; rintro e w' ⟨rfl, rfl⟩)
    go_ret
    exact ⟨ret_i (by rw [← hr.out, E.out]), rfl⟩
  · have c1 := c 0 (by simp [Hid, bitsErr, hn])
    clear c
    by_cases hk : k < 0 ∨ n < k
    · have E : Hid (andErr n k = 4) := by simp [Hid, andErr, hn, hk]
      clear hn
      by_cases h0 : k < 0
      all_goals
        go_enter Try.func16, Try.ntmps16
        go_wp2_with (go_at_call 46; refine c1.mono ?_; rintro e w' ⟨rfl, rfl⟩)
        go_ret
        exact ⟨ret_i (by rw [← hr.out, E.out]), rfl⟩
    · have E : Hid (andErr n k = 0) := by simp [Hid, andErr, hn, hk]
      have h0 : ¬ k < 0 := by omega
      have h1 : ¬ n < k := by omega
      clear hn hk
      go_enter Try.func16, Try.ntmps16
      go_wp2_with (go_at_call 46; refine c1.mono ?_; rintro e w' ⟨rfl, rfl⟩)
      go_ret
      exact ⟨ret_i (by rw [← hr.out, E.out]), rfl⟩

theorem andErr_ok {n k : Int} (h : andErr n k = 0) : ∃ n' k' : Nat, n = n' ∧ k = k' ∧ n' ≤ 12 ∧ k' ≤ n' := by
  unfold andErr at h
  split at h
  · omega
  · split at h
    · omega
    · exact ⟨n.toNat, k.toNat, by omega, by omega, by omega, by omega⟩
def manyRes (n k : Int) : Int × Int := if andErr n k = 0 then (binom n.toNat k.toNat, 0) else (0, andErr n k)
end Go.Proofs.Ytakpkllfoddalaa

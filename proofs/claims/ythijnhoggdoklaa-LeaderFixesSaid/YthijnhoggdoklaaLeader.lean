import Derived.Test.YthijnhoggdoklaaSpan
import Derived.Test.YthijnhoggdoklaaOwn
set_option linter.unusedVariables false
namespace Go.Proofs.Ythijnhoggdoklaa
open Go.RowKit

/-! ### plain words -/
def oddN (c x : Nat) : Nat := pop (c &&& x) % 2
theorem oddN_01 (c x : Nat) : oddN c x = 0 ∨ oddN c x = 1 := by unfold oddN; omega
/-- the first k marks -/
def markF (l : List Nat) (x : Nat) : Nat → Nat
  | 0 => 0
  | k + 1 => markF l x k + oddN (l.getD k 0) x * 2 ^ k
def badW (l : List Nat) (x : Nat) : Nat → Nat
  | 0 => 0
  | k + 1 => badW l x k + oddN (l.getD k 0) x
theorem markF_lt (l : List Nat) (x k : Nat) : markF l x k < 2 ^ k := by
  induction k with
  | zero => simp [markF]
  | succ k ih =>
    rw [markF, Nat.pow_succ]
    rcases oddN_01 (l.getD k 0) x with h | h <;> rw [h] <;> omega
theorem badW_le (l : List Nat) (x k : Nat) : badW l x k ≤ k := by
  induction k with
  | zero => simp [badW]
  | succ k ih => rw [badW]; rcases oddN_01 (l.getD k 0) x with h | h <;> rw [h] <;> omega
theorem markF_next {l : List Nat} {x k c : Nat} (h : l[k]? = some c) : markF l x (k + 1) = markF l x k + oddN c x * 2 ^ k := by
  rw [markF, List.getD, h]; rfl
theorem badW_next {l : List Nat} {x k c : Nat} (h : l[k]? = some c) : badW l x (k + 1) = badW l x k + oddN c x := by
  rw [badW, List.getD, h]; rfl
theorem or_pow {m k : Nat} (h : m < 2 ^ k) : m ||| 2 ^ k = m + 2 ^ k := by
  have := Nat.two_pow_add_eq_or_of_lt h 1
  rw [Nat.mul_one] at this
  rw [Nat.or_comm, ← this, Nat.add_comm]
theorem popAux_zero (a : Nat) : Lib.popAux a 0 = 0 := by
  induction a with
  | zero => rfl
  | succ a ih => rw [Lib.popAux]; simpa using ih
theorem pop_step {m k b : Nat} (hm : m < 2 ^ k) (hk : k < 32) (hb : b ≤ 1) : pop (m + b * 2 ^ k) = pop m + b := by
  have hp : 0 < 2 ^ k := Nat.pow_pos (by omega)
  have e1 := popAux_add k (32 - k) (m + b * 2 ^ k)
  have e2 := popAux_add k (32 - k) m
  rw [show k + (32 - k) = 32 from by omega] at e1 e2
  have m1 := popAux_mod k (m + b * 2 ^ k)
  have m2 : (m + b * 2 ^ k) % 2 ^ k = m := by rw [Nat.add_mul_mod_self_right]; exact Nat.mod_eq_of_lt hm
  have d1 : (m + b * 2 ^ k) / 2 ^ k = b := by rw [Nat.add_mul_div_right _ _ hp, Nat.div_eq_of_lt hm, Nat.zero_add]
  have d2 : m / 2 ^ k = 0 := Nat.div_eq_of_lt hm
  rw [m2] at m1
  rw [d1, ← m1] at e1
  rw [d2, popAux_zero] at e2
  have e3 : Lib.popAux (32 - k) b = b := by
    rw [show 32 - k = (31 - k) + 1 from by omega, Lib.popAux, show b / 2 = 0 from by omega, popAux_zero]
    omega
  unfold pop
  omega
theorem pop_mark (l : List Nat) (x k : Nat) (hk : k ≤ 32) : pop (markF l x k) = badW l x k := by
  induction k with
  | zero => exact popAux_zero 32
  | succ k ih =>
    rw [markF, badW, pop_step (markF_lt l x k) (by omega) (by rcases oddN_01 (l.getD k 0) x with h | h <;> omega), ih (by omega)]

/-- what is wrong with checks and a word of so many bits -/
def chkErr (nb : Int) (l : List Nat) (x : Nat) (k : Int) : Int := if rowsErr nb l ≠ 0 then rowsErr nb l else if 2 ^ k.toNat ≤ x then 4 else 0
theorem chkErr_rows {nb : Int} {l : List Nat} {x : Nat} {k : Int} (h : rowsErr nb l ≠ 0) : chkErr nb l x k = rowsErr nb l := by rw [chkErr, if_pos h]
theorem chkErr_ok {nb : Int} {l : List Nat} {x : Nat} {k : Int} (h : chkErr nb l x k = 0) : rowsErr nb l = 0 ∧ x < 2 ^ k.toNat := by
  unfold chkErr at h
  split at h
  · rename_i h1; exact absurd h h1
  · rename_i h1
    split at h
    · omega
    · exact ⟨by simpa using h1, by omega⟩

set_option maxHeartbeats 600000 in
theorem leader_wrong (nb : Int) (A : Option Addr) (n c : Nat) (l : List Nat) (x : Nat) (k b : Int) (w : World) (h : Reads w w.heap.size A n (vn .u32 l)) (hw : ∀ x ∈ l, x < 4294967296) (hk : Hid (rowsErr nb l = 0 → ∃ j : Nat, k = j ∧ j ≤ 12)) (hx : x < 4294967296) (hr : Hid (chkErr nb l x k = b)) :
    Calls Try.prog 42 #[.int .i64 nb, .slice A n c, .int .u32 (x : Int), .int .i64 k] w (Ret w (.int .i64 b)) := by
  have c1 := span_Check nb A n c l (rowsErr nb l) w h hw rfl
  by_cases h0 : rowsErr nb l = 0
  · obtain ⟨j, rfl, hj⟩ := hk.out h0
    rw [h0] at c1
    have ht := shr_test (x := x) (m := j)
    have HB : Hid (b = if 2 ^ j ≤ x then 4 else 0) := by unfold Hid; rw [← hr.out, chkErr, if_neg (by simp [h0])]; rfl
    clear hk h0
    by_cases hb : 2 ^ j ≤ x
    · rw [decide_eq_true hb] at ht
      rw [if_pos hb] at HB
      clear hb
      go_enter Try.func42, Try.ntmps42
      go_wp2_with (go_at_call 45; refine c1.mono ?_; rintro e w' ⟨rfl, rfl⟩)
      go_ret
      exact ⟨ret_i HB.out.symm, rfl⟩
    · rw [decide_eq_false hb] at ht
      rw [if_neg hb] at HB
      clear hb
      go_enter Try.func42, Try.ntmps42
      go_wp2_with (go_at_call 45; refine c1.mono ?_; rintro e w' ⟨rfl, rfl⟩)
      go_ret
      exact ⟨ret_i HB.out.symm, rfl⟩
  · have HB : Hid (rowsErr nb l = b) := by unfold Hid; rw [← hr.out, chkErr_rows h0]
    have hz : (rowsErr nb l != 0) = true := by simpa using h0
    clear h0 hk
    generalize rowsErr nb l = z at *
    go_enter Try.func42, Try.ntmps42
    go_wp2_with (go_at_call 45; refine c1.mono ?_; rintro e w' ⟨rfl, rfl⟩)
    go_ret
    exact ⟨ret_i HB.out, rfl⟩
set_option maxHeartbeats 600000 in
theorem law_checked (nb : Int) (A : Option Addr) (n c : Nat) (l : List Nat) (x : Nat) (k b : Int) (w : World) (h : Reads w w.heap.size A n (vn .u32 l)) (hw : ∀ x ∈ l, x < 4294967296) (hk : Hid (rowsErr nb l = 0 → ∃ j : Nat, k = j ∧ j ≤ 12)) (hx : x < 4294967296) (hr : Hid (chkErr nb l x k = b)) :
    Calls Try.prog 18 #[.int .i64 nb, .slice A n c, .int .u32 (x : Int), .int .i64 k] w (Ret w (.int .i64 b)) := by
  have c1 := ref_RowsCheck nb A n c l (rowsErr nb l) w h hw rfl
  by_cases h0 : rowsErr nb l = 0
  · obtain ⟨j, rfl, hj⟩ := hk.out h0
    rw [h0] at c1
    have es := shl_int hj
    have HB : Hid (b = if 2 ^ j ≤ x then 4 else 0) := by unfold Hid; rw [← hr.out, chkErr, if_neg (by simp [h0])]; rfl
    clear hk h0
    by_cases hb : 2 ^ j ≤ x
    · have ht : (2 : Int) ^ j % 4294967296 ≤ (x : Int) := by rw [es]; exact Int.ofNat_le.2 hb
      rw [if_pos hb] at HB
      clear hb es
      go_enter Try.func18, Try.ntmps18
      go_wp2_with (go_at_call 21; refine c1.mono ?_; rintro e w' ⟨rfl, rfl⟩)
      go_ret
      exact ⟨ret_i HB.out.symm, rfl⟩
    · have ht : ¬ (2 : Int) ^ j % 4294967296 ≤ (x : Int) := by rw [es]; intro h; exact hb (Int.ofNat_le.1 h)
      rw [if_neg hb] at HB
      clear hb es
      go_enter Try.func18, Try.ntmps18
      go_wp2_with (go_at_call 21; refine c1.mono ?_; rintro e w' ⟨rfl, rfl⟩)
      go_ret
      exact ⟨ret_i HB.out.symm, rfl⟩
  · have HB : Hid (rowsErr nb l = b) := by unfold Hid; rw [← hr.out, chkErr_rows h0]
    have hz : (rowsErr nb l == 0) = false := by simpa using h0
    clear h0 hk
    generalize rowsErr nb l = z at *
    go_enter Try.func18, Try.ntmps18
    go_wp2_with (go_at_call 21; refine c1.mono ?_; rintro e w' ⟨rfl, rfl⟩)
    go_ret
    exact ⟨ret_i HB.out, rfl⟩

/-! ### marks -/
set_option maxHeartbeats 600000 in
theorem leader_mark (A : Option Addr) (n c : Nat) (l : List Nat) (x : Nat) (w : World) {B : Nat} (h : Reads w B A n (vn .u32 l)) (hn : n ≤ 8) (hw : ∀ x ∈ l, x < 4294967296) (hx : x < 4294967296) :
    Calls Try.prog 43 #[.slice A n c, .int .u32 (x : Int)] w (RetQ w (.int .u32 (markF l x n : Int))) := by
  go_enter Try.func43, Try.ntmps43
  go_wp2
  go_loopw [5, 10] (fun mv i wr => ∃ k m : Nat, k ≤ n ∧ i = .int .i64 k ∧ mv = .int .u32 (markF l x k : Int) ∧ wr = w.drewN m) (fun _ i _ => n - (intOf i).toNat)
  case atStart => exact ⟨0, 0, by omega, rfl, rfl, rfl⟩
  case round =>
    obtain ⟨k, m, hk, rfl, rfl, rfl⟩ := hrel
    by_cases hlt : k < n
    · obtain ⟨ad, y, rfl, hb, hy, hc⟩ := h.nat_at hlt
      have hy32 := hw y (mem_at hy)
      have HN := Lib.hid (markF_next (x := x) hy)
      have hand : y &&& x < 4294967296 := Nat.and_lt_two_pow (n := 32) _ hx
      have ea := u32_and_nat y x hy32 hx
      have co := fun w => ones_count (y &&& x) w hand
      have hm := markF_lt l x k
      have hp8 : 2 ^ k ≤ 2 ^ 8 := Nat.pow_le_pow_right (by omega) (by omega)
      have es := shl_int (m := k) (by omega)
      have hor := or_pow hm
      have hpl := pop_le (y &&& x)
      unfold oddN at HN
      clear hy
      generalize markF l x k = q at *
      generalize 2 ^ k = t at *
      have eo := u32_or_nat q t (by omega) (by omega)
      have e0 : bits .or .u32 (q : Int) 0 = (q : Int) := by
        have := u32_or_nat q 0 (by omega) (by omega); simpa using this
      rw [hor] at eo
      generalize y &&& x = z at *
      generalize pop z = p at *
      rcases (show p % 2 = 0 ∨ p % 2 = 1 by omega) with hp | hp
      · have ep : (p : Int) % 2 = 0 := by omega
        rw [hp] at HN
        clear hp hor eo
        go_wp2_with (go_at_call 56; refine (co _).mono ?_; rintro e w' ⟨rfl, m2, rfl⟩)
        go_roundw
        case rel => exact ⟨k + 1, m + m2, by omega, by go_num, by rw [HN.out]; simp, by first | rfl | rw [World.drewN_drewN]⟩
        case measure => simp [intOf]; omega
      · have ep : (p : Int) % 2 = 1 := by omega
        rw [hp, Nat.one_mul] at HN
        clear hp hor
        go_wp2_with (go_at_call 56; refine (co _).mono ?_; rintro e w' ⟨rfl, m2, rfl⟩)
        go_roundw
        case rel => exact ⟨k + 1, m + m2, by omega, by go_num, by rw [HN.out]; go_num, by first | rfl | rw [World.drewN_drewN]⟩
        case measure => simp [intOf]; omega
    · obtain rfl : k = n := by omega
      go_wp2
      go_ret
      exact ⟨rfl, m, rfl⟩
set_option maxHeartbeats 600000 in
theorem flip_bad (A : Option Addr) (n c : Nat) (l : List Nat) (x : Nat) (w : World) {B : Nat} (h : Reads w B A n (vn .u32 l)) (hn : n ≤ 8) (hw : ∀ x ∈ l, x < 4294967296) (hx : x < 4294967296) :
    Calls Try.prog 50 #[.slice A n c, .int .u32 (x : Int)] w (RetQ w (.int .i64 (badW l x n : Int))) := by
  go_enter Try.func50, Try.ntmps50
  go_wp2
  go_loopw [5, 10] (fun mv i wr => ∃ k m : Nat, k ≤ n ∧ i = .int .i64 k ∧ mv = .int .i64 (badW l x k : Int) ∧ wr = w.drewN m) (fun _ i _ => n - (intOf i).toNat)
  case atStart => exact ⟨0, 0, by omega, rfl, rfl, rfl⟩
  case round =>
    obtain ⟨k, m, hk, rfl, rfl, rfl⟩ := hrel
    by_cases hlt : k < n
    · obtain ⟨ad, y, rfl, hb, hy, hc⟩ := h.nat_at hlt
      have hy32 := hw y (mem_at hy)
      have HN := Lib.hid (badW_next (x := x) hy)
      have hand : y &&& x < 4294967296 := Nat.and_lt_two_pow (n := 32) _ hx
      have ea := u32_and_nat y x hy32 hx
      have co := fun w => ones_count (y &&& x) w hand
      have hm := badW_le l x k
      have hpl := pop_le (y &&& x)
      unfold oddN at HN
      clear hy
      generalize badW l x k = q at *
      generalize y &&& x = z at *
      generalize pop z = p at *
      rcases (show p % 2 = 0 ∨ p % 2 = 1 by omega) with hp | hp
      · have ep : (p : Int) % 2 = 0 := by omega
        rw [hp] at HN
        clear hp
        go_wp2_with (go_at_call 56; refine (co _).mono ?_; rintro e w' ⟨rfl, m2, rfl⟩)
        go_roundw
        case rel => exact ⟨k + 1, m + m2, by omega, by go_num, by rw [HN.out]; simp, by first | rfl | rw [World.drewN_drewN]⟩
        case measure => simp [intOf]; omega
      · have ep : (p : Int) % 2 = 1 := by omega
        rw [hp] at HN
        clear hp
        go_wp2_with (go_at_call 56; refine (co _).mono ?_; rintro e w' ⟨rfl, m2, rfl⟩)
        go_roundw
        case rel => exact ⟨k + 1, m + m2, by omega, by go_num, by rw [HN.out]; go_num, by first | rfl | rw [World.drewN_drewN]⟩
        case measure => simp [intOf]; omega
    · obtain rfl : k = n := by omega
      go_wp2
      go_ret
      exact ⟨rfl, m, rfl⟩
theorem oddB_of (c x : Nat) : (((pop (c &&& x) : Int) % 2) == 1) = (oddN c x == 1) := by
  unfold oddN; rw [Bool.eq_iff_iff]; simp; omega
set_option maxHeartbeats 400000 in
theorem ref_Odd (a b : Nat) (w : World) (ha : a < 4294967296) (hb : b < 4294967296) :
    Calls Try.prog 44 #[.int .u32 (a : Int), .int .u32 (b : Int)] w (Ret w (.bool (oddN a b == 1))) := by
  have hand : a &&& b < 4294967296 := Nat.and_lt_two_pow (n := 32) _ hb
  have ea := u32_and_nat a b ha hb
  have co := ref_Size (a &&& b) w hand
  have HB := Lib.hid (oddB_of a b)
  have hpl := pop_le (a &&& b)
  generalize oddN a b = o at *
  generalize a &&& b = z at *
  generalize pop z = p at *
  go_enter Try.func44, Try.ntmps44
  go_wp2_with (go_at_call 49; refine co.mono ?_; rintro e w' ⟨rfl, rfl⟩)
  go_ret
  exact ⟨ret_b (by rw [← HB.out]), rfl⟩
set_option maxHeartbeats 600000 in
theorem ref_Mark (A : Option Addr) (n c : Nat) (l : List Nat) (x : Nat) (w : World) {B : Nat} (h : Reads w B A n (vn .u32 l)) (hn : n ≤ 8) (hw : ∀ x ∈ l, x < 4294967296) (hx : x < 4294967296) :
    Calls Try.prog 19 #[.slice A n c, .int .u32 (x : Int)] w (Ret w (.int .u32 (markF l x n : Int))) := by
  go_enter Try.func19, Try.ntmps19
  go_wp2
  go_loop [5, 10] (fun mv i => ∃ k : Nat, k ≤ n ∧ i = .int .i64 k ∧ mv = .int .u32 (markF l x k : Int)) (fun _ i => n - (intOf i).toNat)
  case atStart => exact ⟨0, by omega, rfl, rfl⟩
  case round =>
    obtain ⟨k, hk, rfl, rfl⟩ := hrel
    by_cases hlt : k < n
    · obtain ⟨ad, y, rfl, hb, hy, hc⟩ := h.nat_at hlt
      have hy32 := hw y (mem_at hy)
      have HN := Lib.hid (markF_next (x := x) hy)
      have co := ref_Odd y x w hy32 hx
      have hm := markF_lt l x k
      have hp8 : 2 ^ k ≤ 2 ^ 8 := Nat.pow_le_pow_right (by omega) (by omega)
      have es := shl_int (m := k) (by omega)
      clear hy
      generalize markF l x k = q at *
      generalize 2 ^ k = t at *
      rcases oddN_01 y x with hp | hp
      · rw [hp] at HN co
        have e0 : ((0 : Nat) == 1) = false := rfl
        rw [e0] at co
        clear hp e0
        go_wp2_with (go_at_call 44; refine co.mono ?_; rintro e w' ⟨rfl, rfl⟩)
        go_round
        case rel => exact ⟨k + 1, by omega, by go_num, by rw [HN.out]; simp⟩
        case measure => simp [intOf]; omega
      · rw [hp] at HN co
        rw [Nat.one_mul] at HN
        have e0 : ((1 : Nat) == 1) = true := rfl
        rw [e0] at co
        clear hp e0
        go_wp2_with (go_at_call 44; refine co.mono ?_; rintro e w' ⟨rfl, rfl⟩)
        go_round
        case rel => exact ⟨k + 1, by omega, by go_num, by rw [HN.out]; go_num⟩
        case measure => simp [intOf]; omega
    · obtain rfl : k = n := by omega
      go_wp2
      go_ret
      exact ⟨rfl, rfl⟩
set_option maxHeartbeats 400000 in
theorem ref_Bad (A : Option Addr) (n c : Nat) (l : List Nat) (x : Nat) (w : World) {B : Nat} (h : Reads w B A n (vn .u32 l)) (hn : n ≤ 8) (hw : ∀ x ∈ l, x < 4294967296) (hx : x < 4294967296) :
    Calls Try.prog 27 #[.slice A n c, .int .u32 (x : Int)] w (Ret w (.int .i64 (badW l x n : Int))) := by
  have c1 := ref_Mark A n c l x w h hn hw hx
  have hm := markF_lt l x n
  have hp8 : 2 ^ n ≤ 2 ^ 8 := Nat.pow_le_pow_right (by omega) (by omega)
  have c2 := ref_Size (markF l x n) w (by omega)
  rw [pop_mark l x n (by omega)] at c2
  go_enter Try.func27, Try.ntmps27
  go_wp2_with (first | (go_at_call 19; refine c1.mono ?_; rintro e w' ⟨rfl, rfl⟩) | (go_at_call 49; refine c2.mono ?_; rintro e w' ⟨rfl, rfl⟩))
  go_ret
  exact ⟨rfl, rfl⟩

theorem chk_nb {nb : Int} {l : List Nat} : Hid (rowsErr nb l = 0 → ∃ j : Nat, nb = j ∧ j ≤ 12) := fun h => by
  obtain ⟨_, m, e, hm, _⟩ := rowsErr_ok h; exact ⟨m, e, hm⟩
set_option maxHeartbeats 400000 in
theorem leader_Mark_err (nb : Int) (A : Option Addr) (n c : Nat) (l : List Nat) (x : Nat) (z : Int) (w : World) (h : Reads w w.heap.size A n (vn .u32 l)) (hw : ∀ x ∈ l, x < 4294967296) (hx : x < 4294967296) (hz : Hid (chkErr nb l x nb = z)) (h0 : (z != 0) = true) :
    Calls Try.prog 17 #[.int .i64 nb, .slice A n c, .int .u32 (x : Int)] w (Ret w (.tuple #[.int .u32 0, .int .i64 z])) := by
  have c1 := leader_wrong nb A n c l x nb z w h hw chk_nb hx hz
  go_enter Try.func17, Try.ntmps17
  go_wp2_with (go_at_call 42; refine c1.mono ?_; rintro e w' ⟨rfl, rfl⟩)
  go_ret2
  exact ⟨rfl, rfl⟩
set_option maxHeartbeats 400000 in
theorem leader_Mark (nb : Int) (A : Option Addr) (n c : Nat) (l : List Nat) (x : Nat) (w : World) (h : Reads w w.heap.size A n (vn .u32 l)) (hw : ∀ x ∈ l, x < 4294967296) (hx : x < 4294967296) (hn : n ≤ 8) (hz : Hid (chkErr nb l x nb = 0)) :
    Calls Try.prog 17 #[.int .i64 nb, .slice A n c, .int .u32 (x : Int)] w (RetQ w (.tuple #[.int .u32 (markF l x n : Int), .int .i64 0])) := by
  have c1 := leader_wrong nb A n c l x nb 0 w h hw chk_nb hx hz
  have c2 := leader_mark A n c l x w h hn hw hx
  generalize markF l x n = q at *
  go_enter Try.func17, Try.ntmps17
  go_wp2_with (first | (go_at_call 42; refine c1.mono ?_; rintro e w' ⟨rfl, rfl⟩) | (go_at_call 43; refine c2.mono ?_; rintro e w' ⟨rfl, m2, rfl⟩))
  go_ret2
  exact ⟨rfl, m2, rfl⟩
theorem chk_len {nb : Int} {w : World} {B : Nat} {A : Option Addr} {n : Nat} {l : List Nat} {x : Nat} {k : Int} (h : Reads w B A n (vn .u32 l)) (hz : chkErr nb l x k = 0) : n ≤ 8 := by
  have := (rowsErr_ok (chkErr_ok hz).1).1
  rwa [h.nat_len] at this
set_option maxHeartbeats 400000 in
theorem LeaderMarks_walk (nb : Int) (A : Option Addr) (n c : Nat) (l : List Nat) (x : Nat) (w : World) (_ : (Lit.int .i64 nb).wf = true) (h : Reads w w.heap.size A n (vn .u32 l)) (hw : ∀ x ∈ l, x < 4294967296) (_ : n * 4 ≤ reachBytes) (hx : x < 4294967296) :
    Calls Try.prog 4 #[.int .i64 nb, .slice A n c, .int .u32 (x : Int)] w (LawTrue w) := by
  by_cases h0 : chkErr nb l x nb = 0
  · have hn := chk_len h h0
    have c1 := leader_Mark nb A n c l x w h hw hx hn h0
    have c2 := fun (w' : World) (hr : Reads w' w'.heap.size A n (vn .u32 l)) => law_checked nb A n c l x nb 0 w' hr hw chk_nb hx h0
    have c3 := fun m => ref_Mark A n c l x (w.drewN m) (h.drewN m) hn hw hx
    clear h0
    generalize markF l x n = q at *
    go_enter Try.func4, Try.ntmps4
    go_wp2_with (first | (go_at_call 17; refine c1.mono ?_; rintro e w1 ⟨rfl, m1, rfl⟩) | (go_at_call 18; refine (c2 _ (h.drewN _)).mono ?_; rintro e w' ⟨rfl, rfl⟩) | (go_at_call 19; refine (c3 _).mono ?_; rintro e w' ⟨rfl, rfl⟩))
    go_ret
    exact .drewN _ _
  · have hz : (chkErr nb l x nb != 0) = true := by simpa using h0
    have c1 := leader_Mark_err nb A n c l x (chkErr nb l x nb) w h hw hx rfl hz
    have c2 := law_checked nb A n c l x nb (chkErr nb l x nb) w h hw chk_nb hx rfl
    clear h0
    generalize chkErr nb l x nb = z at *
    go_enter Try.func4, Try.ntmps4
    go_wp2_with (first | (go_at_call 17; refine c1.mono ?_; rintro e w1 ⟨rfl, rfl⟩) | (go_at_call 18; refine c2.mono ?_; rintro e w' ⟨rfl, rfl⟩))
    go_ret
    exact .same _
end Go.Proofs.Ythijnhoggdoklaa

import Derived.Test.YthijnhoggdoklaaLeader
set_option linter.unusedVariables false
namespace Go.Proofs.Ythijnhoggdoklaa
open Go.RowKit

/-! ### the best bit -/
def bad0 (l : List Nat) (x : Nat) : Nat := badW l x l.length
/-- after k bits were tried: the best one, and how many are bad with it turned -/
def stF (l : List Nat) (x : Nat) : Nat → Option Nat × Nat
  | 0 => (none, bad0 l x)
  | k + 1 => if bad0 l (x ^^^ 2 ^ k) < (stF l x k).2 then (some k, bad0 l (x ^^^ 2 ^ k)) else stF l x k
def stW (x : Nat) : Option Nat → Nat
  | none => x
  | some j => x ^^^ 2 ^ j
theorem stF_lt (l : List Nat) (x k j : Nat) (h : (stF l x k).1 = some j) : j < k ∧ (stF l x k).2 = bad0 l (x ^^^ 2 ^ j) ∧ bad0 l (x ^^^ 2 ^ j) < bad0 l x := by
  induction k with
  | zero => simp [stF] at h
  | succ k ih =>
    have hle : (stF l x k).2 ≤ bad0 l x := by
      cases h2 : (stF l x k).1 with
      | some i =>
        have : ∀ k, (stF l x k).2 ≤ bad0 l x := by
          intro k
          induction k with
          | zero => simp [stF]
          | succ k ih => rw [stF]; split
                         · simp only; omega
                         · exact ih
        exact this k
      | none =>
        have : ∀ k, (stF l x k).2 ≤ bad0 l x := by
          intro k
          induction k with
          | zero => simp [stF]
          | succ k ih => rw [stF]; split
                         · simp only; omega
                         · exact ih
        exact this k
    rw [stF] at h ⊢
    split at h
    · rename_i h1
      simp only [Option.some.injEq] at h
      subst h
      rw [if_pos h1]
      exact ⟨by omega, rfl, by omega⟩
    · rename_i h1
      rw [if_neg h1]
      obtain ⟨a, b, c⟩ := ih h
      exact ⟨by omega, b, c⟩
theorem stF_le (l : List Nat) (x k : Nat) : (stF l x k).2 ≤ bad0 l x := by
  induction k with
  | zero => simp [stF]
  | succ k ih =>
    rw [stF]; split
    · simp only; omega
    · exact ih
theorem xor_pow_lt {x n j : Nat} (hx : x < 2 ^ n) (hj : j < n) : x ^^^ 2 ^ j < 2 ^ n := Nat.xor_lt_two_pow hx (Nat.pow_lt_pow_right (by omega) hj)
theorem xor_pow_ne (x j : Nat) : x ^^^ 2 ^ j ≠ x := by
  intro h
  have h2 : x ^^^ (x ^^^ 2 ^ j) = x ^^^ x := by rw [h]
  rw [← Nat.xor_assoc, Nat.xor_self, Nat.zero_xor] at h2
  have : 0 < 2 ^ j := Nat.pow_pos (by omega)
  omega
theorem stW_lt {l : List Nat} {x n k : Nat} (hx : x < 2 ^ n) (hk : k ≤ n) : stW x (stF l x k).1 < 2 ^ n := by
  cases h : (stF l x k).1 with
  | none => exact hx
  | some j => exact xor_pow_lt hx (by have := (stF_lt l x k j h).1; omega)
/-- one step: the word, and whether it is another one -/
def stepW (n : Nat) (l : List Nat) (x : Nat) : Nat := stW x (stF l x n).1
def stepB (n : Nat) (l : List Nat) (x : Nat) : Bool := (stF l x n).1.isSome
theorem stepB_ne (n : Nat) (l : List Nat) (x : Nat) : ((stepW n l x : Int) != (x : Int)) = stepB n l x := by
  unfold stepW stepB
  cases h : (stF l x n).1 with
  | none => simp [stW]
  | some j =>
    have := xor_pow_ne x j
    simp only [stW, Option.isSome_some, bne_iff_ne, ne_eq]
    omega
theorem step_less {n : Nat} {l : List Nat} {x : Nat} (h : stepB n l x = true) : bad0 l (stepW n l x) < bad0 l x := by
  unfold stepB at h
  unfold stepW
  cases h2 : (stF l x n).1 with
  | none => rw [h2] at h; simp at h
  | some j => exact (stF_lt l x n j h2).2.2
theorem stepW_lt {l : List Nat} {x n : Nat} (hx : x < 2 ^ n) : stepW n l x < 2 ^ n := stW_lt hx (Nat.le_refl _)

theorem xor_int {n x k : Nat} (hn : n ≤ 12) (hx : x < 2 ^ n) (hk : k < n) : bits .xor .u32 (x : Int) ((2 : Int) ^ k % 4294967296) = ((x ^^^ 2 ^ k : Nat) : Int) := by
  have hp := pow_le12 hn
  have hk2 : 2 ^ k < 2 ^ n := Nat.pow_lt_pow_right (by omega) hk
  rw [shl_int (by omega), u32_xor_nat x (2 ^ k) (by omega) (by omega)]

theorem ret_ib {k : IntKind} {a a' : Int} {b b' : Bool} (h : a = a') (h2 : b = b') : Ending.returned (.tuple #[.int k a, .bool b]) = .returned (.tuple #[.int k a', .bool b']) := by rw [h, h2]
set_option maxHeartbeats 800000 in
theorem flip_step (n : Nat) (A : Option Addr) (r c : Nat) (l : List Nat) (x : Nat) (w : World) {B : Nat} (h : Reads w B A r (vn .u32 l)) (hr : r ≤ 8) (hn : n ≤ 12) (hw : ∀ x ∈ l, x < 4294967296) (hx : x < 2 ^ n) :
    Calls Try.prog 53 #[.int .i64 (n : Int), .slice A r c, .int .u32 (x : Int)] w (RetQ w (.tuple #[.int .u32 (stepW n l x : Int), .bool (stepB n l x)])) := by
  have H := Lib.hid h.nat_len
  have hp := pow_le12 hn
  have cb : ∀ (y m : Nat), y < 4294967296 → Calls Try.prog 50 #[.slice A r c, .int .u32 (y : Int)] (w.drewN m) (RetQ (w.drewN m) (.int .i64 (bad0 l y : Int))) := fun y m hy => by
    have := flip_bad A r c l y (w.drewN m) (h.drewN m) hr hw hy
    unfold bad0; rw [H.out]; exact this
  have c0 := cb x 0 (by omega)
  have CB := Lib.hid cb
  have HX := Lib.hid hx
  clear cb hx
  go_enter Try.func53, Try.ntmps53
  go_wp2_with (go_at_call 50; refine c0.mono ?_; rintro e w' ⟨rfl, m1, rfl⟩)
  go_loopw [8, 9, 17] (fun bv fv i wr => ∃ k m : Nat, k ≤ n ∧ i = .int .i64 k ∧ bv = .int .u32 (stW x (stF l x k).1 : Int) ∧ fv = .int .i64 ((stF l x k).2 : Int) ∧ wr = w.drewN m) (fun _ _ i _ => n - (intOf i).toNat)
  case atStart => exact ⟨0, m1, by omega, rfl, rfl, rfl, by first | rfl | rw [World.drewN_drewN, Nat.zero_add]⟩
  case round =>
    obtain ⟨k, m, hk, rfl, rfl, rfl, rfl⟩ := hrel
    by_cases hlt : k < n
    · have hxk := xor_pow_lt HX.out hlt
      have c1 := CB.out (x ^^^ 2 ^ k) m (by omega)
      have ex := xor_int hn HX.out hlt
      have HS : Hid (stF l x (k + 1) = if bad0 l (x ^^^ 2 ^ k) < (stF l x k).2 then (some k, bad0 l (x ^^^ 2 ^ k)) else stF l x k) := rfl
      have HY : Hid (stW x (some k) = x ^^^ 2 ^ k) := rfl
      generalize x ^^^ 2 ^ k = y at *
      obtain ⟨q, hq⟩ : ∃ q, bad0 l y = q := ⟨_, rfl⟩
      obtain ⟨f, hf⟩ : ∃ f, stF l x k = f := ⟨_, rfl⟩
      rw [hq] at c1 HS
      rw [hf] at HS ⊢
      clear hq hf
      by_cases hb : q < f.2
      · rw [if_pos hb] at HS
        have hb2 : (q : Int) < (f.2 : Int) := by omega
        clear hb
        go_wp2_with (go_at_call 50; refine c1.mono ?_; rintro e w' ⟨rfl, m2, rfl⟩)
        go_roundw
        case rel => exact ⟨k + 1, m + m2, by omega, by go_num, by rw [HS.out, HY.out], by rw [HS.out], by first | rfl | rw [World.drewN_drewN]⟩
        case measure => simp [intOf]; omega
      · rw [if_neg hb] at HS
        have hb2 : ¬ (q : Int) < (f.2 : Int) := by omega
        clear hb
        go_wp2_with (go_at_call 50; refine c1.mono ?_; rintro e w' ⟨rfl, m2, rfl⟩)
        go_roundw
        case rel => exact ⟨k + 1, m + m2, by omega, by go_num, by rw [HS.out], by rw [HS.out], by first | rfl | rw [World.drewN_drewN]⟩
        case measure => simp [intOf]; omega
    · obtain rfl : k = n := by omega
      have HB := Lib.hid (stepB_ne k l x)
      have HW : Hid (stW x (stF l x k).1 = stepW k l x) := rfl
      rw [HW.out]
      generalize stepW k l x = y at *
      generalize stepB k l x = b at *
      go_wp2
      go_ret2
      exact ⟨ret_ib rfl HB.out, m, rfl⟩

/-- the reference's best place -/
def optI : Option Nat → Int
  | none => -1
  | some j => j
set_option maxHeartbeats 800000 in
theorem ref_Flip (n : Nat) (A : Option Addr) (r c : Nat) (l : List Nat) (x : Nat) (w : World) {B : Nat} (h : Reads w B A r (vn .u32 l)) (hr : r ≤ 8) (hn : n ≤ 12) (hw : ∀ x ∈ l, x < 4294967296) (hx : x < 2 ^ n) :
    Calls Try.prog 33 #[.int .i64 (n : Int), .slice A r c, .int .u32 (x : Int)] w (Ret w (.tuple #[.int .u32 (stepW n l x : Int), .bool (stepB n l x)])) := by
  have H := Lib.hid h.nat_len
  have hp := pow_le12 hn
  have cb : ∀ (y : Nat), y < 4294967296 → Calls Try.prog 27 #[.slice A r c, .int .u32 (y : Int)] w (Ret w (.int .i64 (bad0 l y : Int))) := fun y hy => by
    have := ref_Bad A r c l y w h hr hw hy
    unfold bad0; rw [H.out]; exact this
  have c0 := cb x (by omega)
  have CB := Lib.hid cb
  have HX := Lib.hid hx
  clear cb hx
  go_enter Try.func33, Try.ntmps33
  go_wp2_with (go_at_call 27; refine c0.mono ?_; rintro e w' ⟨rfl, rfl⟩)
  go_loop [8, 9, 10] (fun bv fv i => ∃ k : Nat, k ≤ n ∧ i = .int .i64 k ∧ bv = .int .i64 (optI (stF l x k).1) ∧ fv = .int .i64 ((stF l x k).2 : Int)) (fun _ _ i => n - (intOf i).toNat)
  case atStart => exact ⟨0, by omega, rfl, rfl, rfl⟩
  case round =>
    obtain ⟨k, hk, rfl, rfl, rfl⟩ := hrel
    by_cases hlt : k < n
    · have hxk := xor_pow_lt HX.out hlt
      have c1 := CB.out (x ^^^ 2 ^ k) (by omega)
      have ex := xor_int hn HX.out hlt
      have HS : Hid (stF l x (k + 1) = if bad0 l (x ^^^ 2 ^ k) < (stF l x k).2 then (some k, bad0 l (x ^^^ 2 ^ k)) else stF l x k) := rfl
      have HY : Hid (optI (some k) = (k : Int)) := rfl
      generalize x ^^^ 2 ^ k = y at *
      obtain ⟨q, hq⟩ : ∃ q, bad0 l y = q := ⟨_, rfl⟩
      obtain ⟨f, hf⟩ : ∃ f, stF l x k = f := ⟨_, rfl⟩
      rw [hq] at c1 HS
      rw [hf] at HS ⊢
      clear hq hf
      by_cases hb : q < f.2
      · rw [if_pos hb] at HS
        have hb2 : (q : Int) < (f.2 : Int) := by omega
        clear hb
        go_wp2_with (go_at_call 27; refine c1.mono ?_; rintro e w' ⟨rfl, rfl⟩)
        go_round
        case rel => exact ⟨k + 1, by omega, by go_num, by rw [HS.out, HY.out], by rw [HS.out]⟩
        case measure => simp [intOf]; omega
      · rw [if_neg hb] at HS
        have hb2 : ¬ (q : Int) < (f.2 : Int) := by omega
        clear hb
        go_wp2_with (go_at_call 27; refine c1.mono ?_; rintro e w' ⟨rfl, rfl⟩)
        go_round
        case rel => exact ⟨k + 1, by omega, by go_num, by rw [HS.out], by rw [HS.out]⟩
        case measure => simp [intOf]; omega
    · obtain rfl : k = n := by omega
      cases ho : (stF l x k).1 with
      | none =>
        have HW : Hid (stepW k l x = x) := by unfold Hid stepW; rw [ho]; rfl
        have HB : Hid (stepB k l x = false) := by unfold Hid stepB; rw [ho]; rfl
        have HO : Hid (optI none = -1) := rfl
        rw [HO.out]
        clear ho
        go_wp2
        go_ret2
        exact ⟨ret_ib (by rw [HW.out]) HB.out.symm, rfl⟩
      | some j =>
        have hj := (stF_lt l x k j ho).1
        have HW : Hid (stepW k l x = x ^^^ 2 ^ j) := by unfold Hid stepW; rw [ho]; rfl
        have HB : Hid (stepB k l x = true) := by unfold Hid stepB; rw [ho]; rfl
        have HO : Hid (optI (some j) = (j : Int)) := rfl
        have ex := xor_int hn HX.out hj
        have hxj := xor_pow_lt HX.out hj
        rw [HO.out]
        clear ho
        generalize x ^^^ 2 ^ j = y at *
        go_wp2
        go_ret2
        exact ⟨ret_ib (by rw [HW.out]) HB.out.symm, rfl⟩
end Go.Proofs.Ythijnhoggdoklaa

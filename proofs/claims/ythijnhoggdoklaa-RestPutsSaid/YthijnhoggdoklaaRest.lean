import Derived.Test.YthijnhoggdoklaaBits
import Derived.Test.YthijnhoggdoklaaStore
import Derived.Test.YthijnhoggdoklaaQuiet
import Derived.Test.YthijnhoggdoklaaCloneBools
import Derived.Lib.BitFns
set_option linter.unusedVariables false
namespace Go.Proofs.Ythijnhoggdoklaa
open Go.RowKit

/-! ### the degree -/
theorem pow_between {g d k : Nat} (h1 : 2 ^ d ≤ g) (h2 : g < 2 ^ (d + 1)) : (2 ^ k ≤ g ↔ k ≤ d) := by
  constructor
  · intro h
    have : 2 ^ k < 2 ^ (d + 1) := by omega
    have := (Nat.pow_lt_pow_iff_right (a := 2) (by omega)).1 this
    omega
  · intro h
    exact Nat.le_trans (Nat.pow_le_pow_right (by omega) h) h1
theorem bitLen_deg {x d : Nat} (h1 : 2 ^ d ≤ x) (h2 : x < 2 ^ (d + 1)) (h3 : x < 131072) : Lib.bitLen x = d + 1 := by
  rw [Lib.bitLen_shift d x h1 (by omega)]
  have hp : 0 < 2 ^ d := Nat.pow_pos (by omega)
  have : x / 2 ^ d = 1 := by
    have e := Nat.div_mul_le_self x (2 ^ d)
    rw [Nat.pow_succ] at h2
    have a := (Nat.le_div_iff_mul_le hp).2 (show 1 * 2 ^ d ≤ x by omega)
    have b : x / 2 ^ d < 2 := (Nat.div_lt_iff_lt_mul hp).2 (by omega)
    omega
  rw [this]; rfl
theorem len8_nat {y q : Nat} (h : y < 256) (hq : Lib.bitLen y = q) : Lib.len8 (y : Int) = (q : Int) := by
  rw [Lib.len8_of (y : Int) (by omega) (by omega), Int.toNat_natCast, hq]
set_option maxHeartbeats 400000 in
set_option maxRecDepth 100000 in
theorem bits_Len32 (x d : Nat) (w : World) (hx : x < 131072) (h1 : 2 ^ d ≤ x) (h2 : x < 2 ^ (d + 1)) :
    Calls Try.prog 60 #[.int .u32 (x : Int)] w (Ret w (.int .i64 ((d : Int) + 1))) := by
  have hL := bitLen_deg h1 h2 hx
  by_cases hA : 65536 ≤ x
  · have hd : d = 16 := by
      have a := (pow_between (k := 16) h1 h2).1 (by omega)
      have b := (pow_between (k := 17) h1 h2)
      have : ¬ 17 ≤ d := fun h => by have := b.2 h; omega
      omega
    subst hd
    have e8 : Lib.len8 1 = 1 := rfl
    have ey : (x : Int) / 65536 = 1 := by omega
    have hA2 : (65536 : Int) ≤ (x : Int) := by omega
    clear hL h1 h2
    go_enter Try.func60, Try.ntmps60
    simp only [List.append_eq, List.cons_append, List.nil_append, Lib.fold_len8tab]
    go_wp2
    go_ret
    exact ⟨rfl, rfl⟩
  · by_cases hB : 256 ≤ x
    · have hs := Lib.bitLen_shift8 x hB (by omega)
      have hA2 : ¬ (65536 : Int) ≤ (x : Int) := by omega
      have hB2 : (256 : Int) ≤ (x : Int) := by omega
      obtain ⟨y, hy⟩ : ∃ y : Nat, y = x / 256 := ⟨_, rfl⟩
      rw [← hy] at hs
      have ey : (x : Int) / 256 = (y : Int) := by omega
      have hy256 : y < 256 := by omega
      have e8 := len8_nat hy256 rfl
      have em : (y : Int) % 256 = (y : Int) := by omega
      have j0 : (0 : Int) ≤ (y : Int) := by omega
      have j1 : (y : Int) ≤ 255 := by omega
      generalize Lib.bitLen y = q at *
      have hq : q ≤ 8 := by
        have := Lib.bitLen_le x 16 (by omega) (by omega)
        omega
      have HD : Hid ((8 : Int) + q = d + 1) := by unfold Hid; omega
      clear hL h1 h2 hs hy hA hB
      go_enter Try.func60, Try.ntmps60
      simp only [List.append_eq, List.cons_append, List.nil_append, Lib.fold_len8tab]
      go_wp2
      go_ret
      exact ⟨ret_i HD.out, rfl⟩
    · have hA2 : ¬ (65536 : Int) ≤ (x : Int) := by omega
      have hB2 : ¬ (256 : Int) ≤ (x : Int) := by omega
      have hx256 : x < 256 := by omega
      have e8 := len8_nat hx256 hL
      have em : (x : Int) % 256 = (x : Int) := by omega
      have j0 : (0 : Int) ≤ (x : Int) := by omega
      have j1 : (x : Int) ≤ 255 := by omega
      have hd8 : d ≤ 16 := by
        have := Lib.bitLen_le x 16 (by omega) (by omega)
        omega
      clear hL h1 h2 hA hB
      have e9 : ((d + 1 : Nat) : Int) = (d : Int) + 1 := by omega
      rw [e9] at e8
      clear e9
      go_enter Try.func60, Try.ntmps60
      simp only [List.append_eq, List.cons_append, List.nil_append, Lib.fold_len8tab]
      go_wp2
      go_ret
      exact ⟨rfl, rfl⟩
set_option maxHeartbeats 400000 in
theorem rest_degree (x d : Nat) (w : World) (hx : x < 131072) (h1 : 2 ^ d ≤ x) (h2 : x < 2 ^ (d + 1)) (hd : d ≤ 16) :
    Calls Try.prog 51 #[.int .u32 (x : Int)] w (Ret w (.int .i64 (d : Int))) := by
  have c1 := bits_Len32 x d w hx h1 h2
  clear h1 h2
  go_enter Try.func51, Try.ntmps51
  go_wp2_with (go_at_call 60; refine c1.mono ?_; rintro e w' ⟨rfl, rfl⟩)
  go_ret
  exact ⟨ret_i (by omega), rfl⟩
def topB (g : Nat) : Nat → Nat
  | 0 => 0
  | k + 1 => if bitB g k then k else topB g k
theorem topB_le (g k : Nat) : topB g k ≤ k := by
  induction k with
  | zero => simp [topB]
  | succ k ih => rw [topB]; split <;> omega
theorem bitB_top {g d : Nat} (h1 : 2 ^ d ≤ g) (h2 : g < 2 ^ (d + 1)) : bitB g d = true := by
  have hp : 0 < 2 ^ d := Nat.pow_pos (by omega)
  have : g / 2 ^ d = 1 := by
    rw [Nat.pow_succ] at h2
    have a := (Nat.le_div_iff_mul_le hp).2 (show 1 * 2 ^ d ≤ g by omega)
    have b : g / 2 ^ d < 2 := (Nat.div_lt_iff_lt_mul hp).2 (by omega)
    omega
  simp [bitB, this]
theorem bitB_high {g d k : Nat} (h2 : g < 2 ^ d) (hk : d ≤ k) : bitB g k = false := by
  have : g < 2 ^ k := Nat.lt_of_lt_of_le h2 (Nat.pow_le_pow_right (by omega) hk)
  simp [bitB, Nat.div_eq_of_lt this]
theorem topB_deg {g d : Nat} (h1 : 2 ^ d ≤ g) (h2 : g < 2 ^ (d + 1)) (k : Nat) (hk : d < k) : topB g k = d := by
  induction k with
  | zero => omega
  | succ k ih =>
    rw [topB]
    by_cases e : k = d
    · subst e; rw [if_pos (bitB_top h1 h2)]
    · rw [if_neg (by rw [bitB_high h2 (by omega)]; simp)]; exact ih (by omega)
set_option maxHeartbeats 400000 in
theorem ref_Degree (x d : Nat) (w : World) (hx : x < 4294967296) (h1 : 2 ^ d ≤ x) (h2 : x < 2 ^ (d + 1)) (hd : d ≤ 16) :
    Calls Try.prog 30 #[.int .u32 (x : Int)] w (Ret w (.int .i64 (d : Int))) := by
  have HT : Hid (topB x 32 = d) := topB_deg h1 h2 32 (by omega)
  clear h1 h2
  go_enter Try.func30, Try.ntmps30
  go_wp2
  go_loop [3, 4] (fun s i => ∃ k : Nat, k ≤ 32 ∧ i = .int .i64 k ∧ s = .int .i64 (topB x k : Int)) (fun _ i => 32 - (intOf i).toNat)
  case atStart => exact ⟨0, by omega, rfl, rfl⟩
  case round =>
    obtain ⟨k, hk, rfl, rfl⟩ := hrel
    by_cases hlt : k < 32
    · have c := ref_Bit x k w hx hlt
      have HS : Hid (topB x (k + 1) = if bitB x k then k else topB x k) := rfl
      have htl := topB_le x k
      generalize topB x k = q at *
      generalize bitB x k = b at *
      cases b
      all_goals
        go_wp2_with (go_at_call 41; refine c.mono ?_; rintro e w' ⟨rfl, rfl⟩)
        go_round
        case rel => exact ⟨k + 1, by omega, by go_num, by rw [HS.out]; rfl⟩
        case measure => simp [intOf]; omega
    · obtain rfl : k = 32 := by omega
      rw [HT.out]
      go_wp2
      go_ret
      exact ⟨rfl, rfl⟩

/-! ### what is wrong -/
def badG (g : Nat) : Bool := (g % 2 == 0) || (g == 1) || decide (131071 < g)
def restErr (g n : Nat) : Int := if badG g then 4 else if 64 < n then 1 else 0
theorem badG_deg {g : Nat} (h : badG g = false) : g < 131072 ∧ g % 2 = 1 ∧ ∃ d, 1 ≤ d ∧ d ≤ 16 ∧ 2 ^ d ≤ g ∧ g < 2 ^ (d + 1) := by
  simp [badG] at h
  obtain ⟨⟨h1, h2⟩, h3⟩ := h
  refine ⟨by omega, by omega, Nat.log2 g, ?_, ?_, Nat.log2_self_le (by omega), Nat.lt_log2_self⟩
  · exact (Nat.le_log2 (by omega)).2 (by omega)
  · have := (Nat.log2_lt (n := g) (k := 17) (by omega)).2 (by omega)
    omega
set_option maxHeartbeats 400000 in
theorem rest_wrong (g n : Nat) (b : Int) (w : World) (hg : g < 4294967296) (hn : n ≤ maxLen) (hr : Hid (restErr g n = b)) :
    Calls Try.prog 39 #[.int .u32 (g : Int), .int .i64 (n : Int)] w (Ret w (.int .i64 b)) := by
  unfold maxLen at hn
  have HB : Hid ((if badG g then (4 : Int) else if 64 < n then 1 else 0) = b) := hr
  clear hr
  unfold badG at HB
  by_cases h1 : g % 2 = 0
  · have e1 : ((g : Int) % 2 == 0) = true := by simp; omega
    rw [show (g % 2 == 0) = true from by simpa using h1] at HB
    go_enter Try.func39, Try.ntmps39
    go_wp2
    go_ret
    exact ⟨ret_i (by rw [← HB.out]; rfl), rfl⟩
  · have e1 : ((g : Int) % 2 == 0) = false := by simp; omega
    rw [show (g % 2 == 0) = false from by simpa using h1] at HB
    by_cases h2 : g = 1
    · have e2 : ((g : Int) == 1) = true := by simp; omega
      rw [show (g == 1) = true from by simpa using h2] at HB
      clear h2 h1
      go_enter Try.func39, Try.ntmps39
      go_wp2
      go_ret
      exact ⟨ret_i (by rw [← HB.out]; rfl), rfl⟩
    · have e2 : ((g : Int) == 1) = false := by simp; omega
      rw [show (g == 1) = false from by simpa using h2] at HB
      clear h2 h1
      by_cases h3 : 131071 < g
      · have e3 : ((g : Int) / 131072 != 0) = true := by simp; omega
        rw [decide_eq_true h3] at HB
        clear h3
        go_enter Try.func39, Try.ntmps39
        go_wp2
        go_ret
        exact ⟨ret_i (by rw [← HB.out]; rfl), rfl⟩
      · have e3 : ((g : Int) / 131072 != 0) = false := by simp; omega
        rw [decide_eq_false h3] at HB
        clear h3
        by_cases h4 : 64 < n
        · rw [if_pos h4] at HB
          go_enter Try.func39, Try.ntmps39
          go_wp2
          go_ret
          exact ⟨ret_i (by rw [← HB.out]; rfl), rfl⟩
        · rw [if_neg h4] at HB
          go_enter Try.func39, Try.ntmps39
          go_wp2
          go_ret
          exact ⟨ret_i (by rw [← HB.out]; rfl), rfl⟩
set_option maxHeartbeats 400000 in
theorem ref_RestCheck (g : Nat) (A : Option Addr) (n c : Nat) (b : Int) (w : World) (hg : g < 4294967296) (hr : Hid (restErr g n = b)) :
    Calls Try.prog 15 #[.int .u32 (g : Int), .slice A n c] w (Ret w (.int .i64 b)) := by
  have HB : Hid ((if badG g then (4 : Int) else if 64 < n then 1 else 0) = b) := hr
  clear hr
  unfold badG at HB
  by_cases h1 : g % 2 = 0
  · have e1 : ((g : Int) % 2 == 0) = true := by simp; omega
    rw [show (g % 2 == 0) = true from by simpa using h1] at HB
    go_enter Try.func15, Try.ntmps15
    go_wp2
    go_ret
    exact ⟨ret_i (by rw [← HB.out]; rfl), rfl⟩
  · have e1 : ((g : Int) % 2 == 0) = false := by simp; omega
    rw [show (g % 2 == 0) = false from by simpa using h1] at HB
    by_cases h2 : g = 1
    · have e2 : ((g : Int) == 1) = true := by simp; omega
      rw [show (g == 1) = true from by simpa using h2] at HB
      clear h2 h1
      go_enter Try.func15, Try.ntmps15
      go_wp2
      go_ret
      exact ⟨ret_i (by rw [← HB.out]; rfl), rfl⟩
    · have e2 : ((g : Int) == 1) = false := by simp; omega
      rw [show (g == 1) = false from by simpa using h2] at HB
      clear h2 h1
      by_cases h3 : 131071 < g
      · have e3 : (131071 : Int) < (g : Int) := by omega
        rw [decide_eq_true h3] at HB
        clear h3
        go_enter Try.func15, Try.ntmps15
        go_wp2
        go_ret
        exact ⟨ret_i (by rw [← HB.out]; rfl), rfl⟩
      · have e3 : ¬ (131071 : Int) < (g : Int) := by omega
        rw [decide_eq_false h3] at HB
        clear h3
        by_cases h4 : 64 < n
        · rw [if_pos h4] at HB
          go_enter Try.func15, Try.ntmps15
          go_wp2
          go_ret
          exact ⟨ret_i (by rw [← HB.out]; rfl), rfl⟩
        · rw [if_neg h4] at HB
          go_enter Try.func15, Try.ntmps15
          go_wp2
          go_ret
          exact ⟨ret_i (by rw [← HB.out]; rfl), rfl⟩
end Go.Proofs.Ythijnhoggdoklaa

import Derived.Test.YtbkgbmnnnlpefaaComb
import Derived.Test.YtbkgbmnnnlpefaaBall
set_option linter.unusedVariables false
namespace Go.Proofs.Ytbkgbmnnnlpefaa
open Go.RowKit

/-! ### plain numbers: the rank of a word -/
theorem cnt_neg (L : List Nat) (k : Int) (h : k < 0) : cnt L k = 0 := by
  unfold cnt
  rw [List.length_eq_zero_iff, List.filter_eq_nil_iff]
  intro a _; simp; omega
theorem cnt_chI (n : Nat) (k : Int) (hn : n ≤ 12) : (cnt (List.range (2 ^ n)) k : Int) = chI n k := by
  by_cases h : k < 0
  · rw [cnt_neg _ _ h]; simp [chI, h]
  · obtain ⟨k, rfl⟩ := Int.eq_ofNat_of_zero_le (a := k) (by omega)
    rw [cnt_all n k hn, chI_binom hn]
theorem chI_bd (n : Nat) (k : Int) (hn : n ≤ 12) : 0 ≤ chI n k ∧ chI n k ≤ 924 := by
  unfold chI
  split
  · omega
  · have := chL_bd ⟨n, by omega⟩ ⟨k.toNat, by omega⟩ (by simp [Fin.le_def]; omega)
    simp only at this; omega
theorem cnt_append (a b : List Nat) (k : Int) : cnt (a ++ b) k = cnt a k + cnt b k := by simp [cnt]
theorem cnt_shift (n y : Nat) (k : Int) (hn : n < 32) (hy : y ≤ 2 ^ n) : cnt ((List.range y).map (2 ^ n + ·)) k = cnt (List.range y) (k - 1) := by
  unfold cnt
  rw [List.filter_map, List.length_map]
  refine congrArg List.length (List.filter_congr ?_)
  intro z hz
  have := pop_top hn (Nat.lt_of_lt_of_le (List.mem_range.1 hz) hy)
  simp only [Function.comp, this]
  refine decide_eq_decide.2 ?_; omega
def rkF : Nat → Nat → Int → Int
  | 0, _, _ => 0
  | n + 1, x, k => if 2 ^ n ≤ x then chI n k + rkF n (x - 2 ^ n) (k - 1) else rkF n x k
theorem rkF_cnt (n x : Nat) (k : Int) (hn : n ≤ 12) (hx : x < 2 ^ n) : rkF n x k = cnt (List.range x) k := by
  induction n generalizing x k with
  | zero => have : x = 0 := by simpa using hx
            subst this; rfl
  | succ n ih =>
    rw [rkF]
    split
    · rename_i h
      have hy : x - 2 ^ n < 2 ^ n := by rw [Nat.pow_succ] at hx; omega
      rw [ih _ _ (by omega) hy, ← cnt_chI n k (by omega)]
      have e : List.range x = List.range (2 ^ n) ++ (List.range (x - 2 ^ n)).map (2 ^ n + ·) := by
        rw [← List.range_add]; congr 1; omega
      rw [e, cnt_append, cnt_shift n _ _ (by omega) (by omega)]; simp
    · exact ih _ _ (by omega) (by omega)
theorem rkF_bit (i x : Nat) (k : Int) : rkF (i + 1) (x % 2 ^ (i + 1)) k = if x / 2 ^ i % 2 = 1 then chI i k + rkF i (x % 2 ^ i) (k - 1) else rkF i (x % 2 ^ i) k := by
  have hp : 0 < 2 ^ i := Nat.pow_pos (by omega)
  have e : x % 2 ^ (i + 1) = x % 2 ^ i + 2 ^ i * (x / 2 ^ i % 2) := Nat.mod_mul
  have hm := Nat.mod_lt x hp
  rw [rkF]
  rcases Nat.mod_two_eq_zero_or_one (x / 2 ^ i) with h | h
  · simp only [h, Nat.mul_zero, Nat.add_zero] at e
    rw [e, h, if_neg (by omega), if_neg (by omega)]
  · simp only [h, Nat.mul_one] at e
    rw [e, h, if_pos (by omega), if_pos rfl, Nat.add_sub_cancel]

def rankRes (nb : Int) (x : Nat) : Int × Int := if bitsErr nb [x] = 0 then (rkF nb.toNat x (pop x), 0) else (0, bitsErr nb [x])

theorem bit_and1 (x i : Nat) (hx : x < 4294967296) : bits .and .u32 ((x : Int) / 2 ^ i) 1 = ((x / 2 ^ i % 2 : Nat) : Int) := by
  have e : ((2 : Int) ^ i) = ((2 ^ i : Nat) : Int) := by rw [Int.natCast_pow]; rfl
  rw [e, ← Int.natCast_ediv]
  have := u32_and_nat (x / 2 ^ i) 1 (Nat.lt_of_le_of_lt (Nat.div_le_self _ _) hx) (by omega)
  rw [Nat.and_one_is_mod] at this
  exact this

set_option maxHeartbeats 800000 in
theorem rank_Rank (nb : Int) (x : Nat) (a b : Int) (w : World) (hx : x < 4294967296) (hr : Hid (rankRes nb x = (a, b))) :
    Calls Try.prog 27 #[.int .i64 nb, .int .u32 (x:Int)] w (RetQ w (.tuple #[.int .i64 a, .int .i64 b])) := by
  by_cases hn : nb < 0 ∨ 12 < nb
  · have E : Hid (rankRes nb x = (0, 1)) := by simp [Hid, rankRes, bitsErr_n _ hn]
    by_cases h0 : nb < 0
    all_goals
      go_enter Try.func27, Try.ntmps27
      go_wp2
      go_ret2
      exact ⟨ret_ii (by rw [← hr.out, E.out]), 0, rfl⟩
  · have h0 : 0 ≤ nb := by omega
    have h12 : nb ≤ 12 := by omega
    obtain ⟨n, rfl⟩ := Int.eq_ofNat_of_zero_le h0
    have ht := shr_test (x := x) (m := n)
    by_cases hbig : 2 ^ n ≤ x
    · have E : Hid (rankRes n x = (0, 4)) := by
        have := bitsErr_bad (m := n) (k := 0) (x := x) (l := [x]) (by omega) rfl (by omega)
        unfold Hid rankRes; rw [this]; rfl
      rw [decide_eq_true hbig] at ht
      clear hn hbig
      go_enter Try.func27, Try.ntmps27
      go_wp2
      go_ret2
      exact ⟨ret_ii (by rw [← hr.out, E.out]), 0, rfl⟩
    · rw [decide_eq_false hbig] at ht
      have E : Hid (rankRes n x = (rkF n x (pop x), 0)) := by
        have := bitsErr_ok (m := n) (l := [x]) (by omega) (by simp [fits]; omega)
        unfold Hid rankRes; rw [this]; rfl
      have hxm : x % 2 ^ n = x := Nat.mod_eq_of_lt (by omega)
      have HM := Lib.hid hxm
      have c := fun w => ones_count x w hx
      have hpl := pop_le x
      clear hn hbig hxm
      obtain ⟨q, hq⟩ : ∃ q, q = pop x := ⟨_, rfl⟩
      rw [← hq] at c hpl
      have HQ := Lib.hid hq
      clear hq
      go_enter Try.func27, Try.ntmps27
      go_wp2_with (go_at_call 44; refine (c _).mono ?_; rintro e w' ⟨rfl, m0, rfl⟩)
      go_loop [6, 7, 8] (fun lf s i => ∃ (j : Nat) (k t : Int), j ≤ n ∧ i = .int .i64 (j - 1) ∧ lf = .int .i64 k ∧ s = .int .i64 t ∧ k ≤ 32 ∧ 0 ≤ k + (n - j) ∧ 0 ≤ t ∧ t ≤ 1000 * (n - j) ∧ Hid (t + rkF j (x % 2 ^ j) k = rkF n x q)) (fun _ _ i => (intOf i + 1).toNat)
      case atStart => exact ⟨n, q, 0, by omega, rfl, rfl, rfl, by omega, by omega, by omega, by omega, by unfold Hid; rw [HM.out]; simp⟩
      case round =>
        obtain ⟨j, k, t, hj, rfl, rfl, rfl, hk1, hk2, ht1, ht2, hrel⟩ := hrel
        by_cases hj0 : j = 0
        · subst hj0
          have HT : Hid (t = rkF n x q) := by have := hrel.out; simpa [Hid, rkF] using this
          go_wp2
          go_ret2
          exact ⟨ret_ii (by rw [← hr.out, E.out, HT.out, HQ.out]), m0, rfl⟩
        · obtain ⟨i, rfl⟩ : ∃ i, j = i + 1 := ⟨j - 1, by omega⟩
          have e1 : ((i + 1 : Nat) : Int) - 1 = (i : Int) := by omega
          rw [e1]
          clear e1
          have hbd := chI_bd i k (by omega)
          have cc := fun w => rank_choose i k (chI i k) w (by omega) rfl
          have HB := Lib.hid (rkF_bit i x k)
          have hb1 := bit_and1 x i hx
          by_cases hbit : x / 2 ^ i % 2 = 1
          · rw [hbit] at hb1
            have HR : Hid (t + chI i k + rkF i (x % 2 ^ i) (k - 1) = rkF n x q) := by
              have := hrel.out; rw [HB.out, if_pos hbit] at this; unfold Hid; omega
            clear hbit HB
            generalize chI i k = z at *
            go_wp2_with (go_at_call 50; refine (cc _).mono ?_; rintro e w' ⟨rfl, rfl⟩)
            go_round
            case rel => exact ⟨i, k - 1, t + z, by omega, by go_num, by go_num, rfl, by omega, by omega, by omega, by omega, HR⟩
            case measure => simp only [intOf]; omega
          · have h0 : x / 2 ^ i % 2 = 0 := by omega
            rw [h0] at hb1
            have HR : Hid (t + rkF i (x % 2 ^ i) k = rkF n x q) := by
              have := hrel.out; rw [HB.out, if_neg hbit] at this; exact this
            clear hbit HB h0 cc
            go_wp2
            go_round
            case rel => exact ⟨i, k, t, by omega, by go_num, rfl, rfl, by omega, by omega, by omega, by omega, HR⟩
            case measure => simp only [intOf]; omega

set_option maxHeartbeats 400000 in
theorem RankRanks_walk (nb : Int) (x : Nat) (w : World) (_ : (Lit.int .i64 nb).wf = true) (hx : x < 4294967296) :
    Calls Try.prog 7 #[.int .i64 nb, .int .u32 (x:Int)] w (LawTrue w) := by
  have c2 := fun (w : World) (b : Int) (hb : Hid (bitsErr nb [x] = b)) => ref_BitsCheck nb (some ⟨w.heap.size, 0, none⟩) 1 1 [x] b (w.alloc (.cells #[.int .u32 (x:Int)] 38)) (by simpa using reads_new w #[.int .u32 (x:Int)] 38 1 rfl) hb (by unfold maxLen; omega) (by simpa using hx)
  by_cases h0 : bitsErr nb [x] = 0
  · have c1 := rank_Rank nb x (rkF nb.toNat x (pop x)) 0 w hx (by simp [Hid, rankRes, h0])
    have c2 := fun w => c2 w 0 h0
    obtain ⟨n, rfl, hn, hxn⟩ := bitsErr1 h0
    rw [Int.toNat_natCast] at c1
    have c3 := fun w => ref_Size x w hx
    have c4 := fun w => ref_Many n x (pop x) (rkF n x (pop x)) w hn hx (by
      unfold Hid; rw [rkF_cnt n x _ hn hxn, Nat.min_eq_left (by omega)])
    clear h0 hxn
    generalize rkF n x (pop x) = z at *
    generalize pop x = q at *
    go_enter Try.func7, Try.ntmps7
    go_wp2_with (first | (go_at_call 27; refine c1.mono ?_; rintro e w1 ⟨rfl, m1, rfl⟩) | (go_at_call 24; refine (c2 _).mono ?_; rintro e w' ⟨rfl, rfl⟩) | (go_at_call 29; refine (c3 _).mono ?_; rintro e w2 ⟨rfl, rfl⟩) | (go_at_call 28; refine (c4 _).mono ?_; rintro e w2 ⟨rfl, rfl⟩))
    go_ret
    exact ⟨rfl, by first | exact (below_drewN (Below.refl _ _) _).alloc (Nat.le_refl _) _ | exact below_drewN ((Below.refl _ _).alloc (Nat.le_refl _) _) _⟩
  · have c1 := rank_Rank nb x 0 (bitsErr nb [x]) w hx (by simp [Hid, rankRes, h0])
    have c2 := fun w => c2 w _ rfl
    generalize bitsErr nb [x] = z at *
    go_enter Try.func7, Try.ntmps7
    go_wp2_with (first | (go_at_call 27; refine c1.mono ?_; rintro e w1 ⟨rfl, m1, rfl⟩) | (go_at_call 24; refine (c2 _).mono ?_; rintro e w' ⟨rfl, rfl⟩))
    go_ret
    exact ⟨rfl, by first | exact (below_drewN (Below.refl _ _) _).alloc (Nat.le_refl _) _ | exact below_drewN ((Below.refl _ _).alloc (Nat.le_refl _) _) _⟩
end Go.Proofs.Ytbkgbmnnnlpefaa

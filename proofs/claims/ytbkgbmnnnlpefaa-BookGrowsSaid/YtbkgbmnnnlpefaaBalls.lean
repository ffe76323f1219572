import Derived.Test.YtbkgbmnnnlpefaaRank
import Derived.Test.YtbkgbmnnnlpefaaOwn
import Derived.Test.YtbkgbmnnnlpefaaWordsEq
set_option linter.unusedVariables false
namespace Go.Proofs.Ytbkgbmnnnlpefaa
open Go.RowKit

/-- returned a slice that reads as xs, and no error -/
def RetR2 (w : World) (xs : List Value) (e : Ending) (w' : World) : Prop :=
  ∃ A n c, e = .returned (.tuple #[.slice A n c, .int .i64 0]) ∧ Reads w' w'.heap.size A n xs ∧ n ≤ maxLen ∧ Below w.heap.size w w'
/-- returned nothing, and an error -/
def RetE2 (w : World) (z : Int) (e : Ending) (w' : World) : Prop := e = .returned (.tuple #[.slice none 0 0, .int .i64 z]) ∧ Below w.heap.size w w'

theorem filter_next (p : Nat → Bool) (j : Nat) : (List.range (j + 1)).filter p = (List.range j).filter p ++ if p j then [j] else [] := by
  rw [List.range_succ, List.filter_append]
  by_cases h : p j <;> simp [h]
theorem filter_len (p : Nat → Bool) (j : Nat) : ((List.range j).filter p).length ≤ j := by
  have := List.length_filter_le p (List.range j); simpa using this

theorem el_u32' : Elem Try.prog 39 38 (.int .u32 0) 4 := Elem.mk' Try.underlying39 (by kernel_rfl) rfl

def near (a : Nat) (r : Int) (w : Nat) : Bool := decide ((pop (w ^^^ a) : Int) ≤ r)
def ballL (n a : Nat) (r : Int) : List Nat := (List.range (2 ^ n)).filter (near a r)
def ballErr (n : Int) (a : Nat) (r : Int) : Int := if bitsErr n [a] ≠ 0 then bitsErr n [a] else if r < 0 ∨ n < r then 4 else 0
theorem ballErr_ok {nb : Int} {a : Nat} {r : Int} (h : ballErr nb a r = 0) : ∃ n : Nat, nb = n ∧ n ≤ 12 ∧ a < 2 ^ n ∧ 0 ≤ r ∧ r ≤ n ∧ bitsErr nb [a] = 0 := by
  unfold ballErr at h
  split at h
  · rename_i h1; exact absurd h h1
  · rename_i h1
    have h1 : bitsErr nb [a] = 0 := by simpa using h1
    split at h
    · omega
    · obtain ⟨n, rfl, h2, h3⟩ := bitsErr1 h1
      exact ⟨n, rfl, h2, h3, by omega, by omega, h1⟩

set_option maxHeartbeats 800000 in
theorem ball_Ball_err (nb : Int) (a : Nat) (r : Int) (z : Int) (w : World) (ha : a < 4294967296) (hz : Hid (ballErr nb a r = z)) (h0 : z ≠ 0) :
    Calls Try.prog 23 #[.int .i64 nb, .int .u32 (a:Int), .int .i64 r] w (RetE2 w z) := by
  have r1 := reads_new w #[.int .u32 (a:Int)] 38 1 rfl
  have c1 := fun b hb => ball_Check nb (some ⟨w.heap.size, 0, none⟩) 1 1 [a] b (w.alloc (.cells #[.int .u32 (a:Int)] 38)) (by simpa using r1) hb (by unfold maxLen; omega) (by simpa using ha)
  by_cases h1 : bitsErr nb [a] = 0
  · have c2 := c1 0 h1
    have hr : r < 0 ∨ nb < r := by
      by_cases h : r < 0 ∨ nb < r
      · exact h
      · exfalso; apply h0; rw [← hz.out]; simp [ballErr, h1, h]
    have HZ : Hid (z = 4) := by unfold Hid; rw [← hz.out]; simp [ballErr, h1, hr]
    clear c1 r1 h1 h0
    by_cases h2 : r < 0
    all_goals
      go_enter Try.func23, Try.ntmps23
      go_wp2_with (go_at_call 49; refine c2.mono ?_; rintro e w' ⟨rfl, rfl⟩)
      go_ret2
      exact ⟨by rw [HZ.out]; rfl, (Below.refl _ _).alloc (Nat.le_refl _) _⟩
  · have HZ : Hid (z = bitsErr nb [a]) := by unfold Hid; rw [← hz.out]; simp [ballErr, h1]
    have c2 := c1 _ HZ.out.symm
    clear c1 r1
    have hzb : (z != 0) = true := by simpa using h0
    clear h1 h0
    go_enter Try.func23, Try.ntmps23
    go_wp2_with (go_at_call 49; refine c2.mono ?_; rintro e w' ⟨rfl, rfl⟩)
    go_ret2
    exact ⟨rfl, (Below.refl _ _).alloc (Nat.le_refl _) _⟩

set_option maxHeartbeats 1600000 in
theorem ball_Ball (n a : Nat) (r : Int) (w : World) (hn : n ≤ 12) (ha : a < 2 ^ n) (hr0 : 0 ≤ r) (hrn : r ≤ n) :
    Calls Try.prog 23 #[.int .i64 (n : Int), .int .u32 (a:Int), .int .i64 r] w (RetR2 w (vn .u32 (ballL n a r))) := by
  have hp12 := pow_le12 hn
  have ha32 : a < 4294967296 := by omega
  have r1 := reads_new w #[.int .u32 (a:Int)] 38 1 rfl
  have c1 := ball_Check n (some ⟨w.heap.size, 0, none⟩) 1 1 [a] 0 (w.alloc (.cells #[.int .u32 (a:Int)] 38)) (by simpa using r1) (bitsErr_ok hn (by simp [fits]; exact ha)) (by unfold maxLen; omega) (by simpa using ha32)
  obtain ⟨p, hp⟩ : ∃ p, p = 2 ^ n := ⟨_, rfl⟩
  have es := shl_int hn
  rw [← hp] at es hp12
  have HP := Lib.hid hp
  have d1 : decide (r < 0) = false := by simp; omega
  have d2 : decide ((n : Int) < r) = false := by simp; omega
  clear hp r1 ha
  go_enter Try.func23, Try.ntmps23
  go_wp2_with (go_at_call 49; refine c1.mono ?_; rintro e w' ⟨rfl, rfl⟩)
  rw [es]
  go_loopw [9, 27] (fun v i wr => ∃ j : Nat, j ≤ p ∧ i = .int .u32 j ∧ Own wr w.heap.size 38 v (vn .u32 ((List.range j).filter (near a r))) ∧ Below w.heap.size w wr) (fun _ i _ => p - (intOf i).toNat)
  case atStart => exact ⟨0, by omega, rfl, Own.nil _ _ _, (Below.refl _ _).alloc (Nat.le_refl _) _⟩
  case round =>
    obtain ⟨j, hj, rfl, hown, hbel⟩ := hrel
    by_cases hlt : j < p
    · have hxa : j ^^^ a < 4294967296 := Nat.xor_lt_two_pow (n := 32) (by omega) ha32
      have hm := u32_xor_nat j a (by omega) ha32
      have c := fun w => ones_count (j ^^^ a) w hxa
      have HN := Lib.hid (filter_next (near a r) j)
      have hl : (vn .u32 ((List.range j).filter (near a r))).length ≤ 4096 := by
        rw [List.length_map]; have := filter_len (near a r) j; omega
      have hB := hbel.size
      by_cases hc : near a r j = true
      · have ht : (pop (j ^^^ a) : Int) ≤ r := by simpa [near] using hc
        have HN' : Hid ((List.range (j + 1)).filter (near a r) = (List.range j).filter (near a r) ++ [j]) := by have := HN.out; rw [if_pos hc] at this; exact this
        clear hc HN
        generalize pop (j ^^^ a) = q at *
        go_wp2_with (first | (go_at_call 44; refine (c _).mono ?_; rintro e w' ⟨rfl, m0, rfl⟩; have hown1 := hown.drewN m0; have hB1 : w.heap.size ≤ (wr.drewN m0).heap.size := hB) | (at_builtin; refine app1 el_u32' rfl _ _ rfl rfl hown1 _ _ rfl rfl (by unfold maxLen; omega) (by omega) hB1 ?_; intro v1 w1 ho1 hb1 _ _))
        go_roundw
        case rel => exact ⟨j + 1, by omega, by go_num, by rw [HN'.out]; simpa [vn] using ho1, (below_drewN hbel m0).trans hb1⟩
        case measure => simp only [intOf]; omega
      · have ht : ¬ (pop (j ^^^ a) : Int) ≤ r := by simpa [near] using hc
        have HN' : Hid ((List.range (j + 1)).filter (near a r) = (List.range j).filter (near a r)) := by have := HN.out; rw [if_neg hc, List.append_nil] at this; exact this
        clear hc HN
        generalize pop (j ^^^ a) = q at *
        go_wp2_with (go_at_call 44; refine (c _).mono ?_; rintro e w' ⟨rfl, m0, rfl⟩)
        go_roundw
        case rel => exact ⟨j + 1, by omega, by go_num, by rw [HN'.out]; exact hown.drewN m0, below_drewN hbel m0⟩
        case measure => simp only [intOf]; omega
    · obtain rfl : j = p := by omega
      obtain ⟨A2, c2, e⟩ := hown.form
      have hl : (vn .u32 ((List.range j).filter (near a r))).length ≤ 4096 := by
        rw [List.length_map]; have := filter_len (near a r) j; omega
      generalize hn2 : (vn .u32 ((List.range j).filter (near a r))).length = n2 at e hl
      subst e
      clear hn2
      go_wp2
      go_ret2
      refine ⟨A2, n2, c2, rfl, ?_, by unfold maxLen; omega, hbel⟩
      have := hown.reads
      unfold ballL; rw [← HP.out]; exact this

theorem near_comm (a w : Nat) (r : Int) : near a r w = decide ((pop (a ^^^ w) : Int) ≤ r) := by unfold near; rw [Nat.xor_comm]

set_option maxHeartbeats 1600000 in
theorem BallTells_walk (nb : Int) (a : Nat) (r : Int) (w : World) (_ : (Lit.int .i64 nb).wf = true) (ha : a < 4294967296) (_ : (Lit.int .i64 r).wf = true) :
    Calls Try.prog 6 #[.int .i64 nb, .int .u32 (a:Int), .int .i64 r] w (LawTrue w) := by
  have c2 := fun (w : World) (b : Int) (hb : Hid (bitsErr nb [a] = b)) => ref_BitsCheck nb (some ⟨w.heap.size, 0, none⟩) 1 1 [a] b (w.alloc (.cells #[.int .u32 (a:Int)] 38)) (by simpa using reads_new w #[.int .u32 (a:Int)] 38 1 rfl) hb (by unfold maxLen; omega) (by simpa using ha)
  by_cases h0 : ballErr nb a r = 0
  · obtain ⟨n, rfl, hn, han, hr0, hrn, hb0⟩ := ballErr_ok h0
    have c1 := ball_Ball n a r w hn han hr0 hrn
    have c2 := fun w => c2 w 0 hb0
    have hp12 := pow_le12 hn
    obtain ⟨p, hp⟩ : ∃ p, p = 2 ^ n := ⟨_, rfl⟩
    have es := shl_int hn
    rw [← hp] at es hp12
    have HP := Lib.hid hp
    have d1 : decide (r < 0) = false := by simp; omega
    have d2 : decide ((n : Int) < r) = false := by simp; omega
    clear hp h0 hb0 han
    go_enter Try.func6, Try.ntmps6
    go_wp2_with (first | (go_at_call 23; refine c1.mono ?_; rintro e w1 ⟨A1, n1, k1, rfl, hr1, hm1, hb1⟩) | (go_at_call 24; refine (c2 _).mono ?_; rintro e w' ⟨rfl, rfl⟩))
    have hb1' : Below w.heap.size w (w1.alloc (.cells #[.int .u32 (a:Int)] 38)) := hb1.alloc hb1.size _
    go_loopw [10, 11] (fun v i wr => ∃ j : Nat, j ≤ p ∧ i = .int .u32 j ∧ Own wr w1.heap.size 38 v (vn .u32 ((List.range j).filter (near a r))) ∧ Below w1.heap.size w1 wr) (fun _ i _ => p - (intOf i).toNat)
    case atStart => exact ⟨0, by omega, rfl, Own.nil _ _ _, (Below.refl _ _).alloc (Nat.le_refl _) _⟩
    case round =>
      obtain ⟨j, hj, rfl, hown, hbel⟩ := hrel
      by_cases hlt : j < p
      · have c := fun w => ref_Apart a j (pop (a ^^^ j)) w ha (by omega) rfl
        have HN := Lib.hid (filter_next (near a r) j)
        have hl : (vn .u32 ((List.range j).filter (near a r))).length ≤ 4096 := by
          rw [List.length_map]; have := filter_len (near a r) j; omega
        have hB := hbel.size
        by_cases hc : near a r j = true
        · have ht : (pop (a ^^^ j) : Int) ≤ r := by rw [near_comm] at hc; simpa using hc
          have HN' : Hid ((List.range (j + 1)).filter (near a r) = (List.range j).filter (near a r) ++ [j]) := by have := HN.out; rw [if_pos hc] at this; exact this
          clear hc HN
          generalize pop (a ^^^ j) = q at *
          go_wp2_with (first | (go_at_call 25; refine (c _).mono ?_; rintro e w' ⟨rfl, rfl⟩) | (at_builtin; refine app1 el_u32' rfl _ _ rfl rfl hown _ _ rfl rfl (by unfold maxLen; omega) (by omega) hB ?_; intro v2 w2 ho2 hb2 _ _))
          go_roundw
          case rel => exact ⟨j + 1, by omega, by go_num, by rw [HN'.out]; simpa [vn] using ho2, hbel.trans hb2⟩
          case measure => simp only [intOf]; omega
        · have ht : ¬ (pop (a ^^^ j) : Int) ≤ r := by rw [near_comm] at hc; simpa using hc
          have HN' : Hid ((List.range (j + 1)).filter (near a r) = (List.range j).filter (near a r)) := by have := HN.out; rw [if_neg hc, List.append_nil] at this; exact this
          clear hc HN
          generalize pop (a ^^^ j) = q at *
          go_wp2_with (go_at_call 25; refine (c _).mono ?_; rintro e w' ⟨rfl, rfl⟩)
          go_roundw
          case rel => exact ⟨j + 1, by omega, by go_num, by rw [HN'.out]; exact hown, hbel⟩
          case measure => simp only [intOf]; omega
      · obtain rfl : j = p := by omega
        obtain ⟨A2, c2', e⟩ := hown.form
        generalize hn2 : (vn .u32 ((List.range j).filter (near a r))).length = n2 at e
        subst e
        clear hn2
        have hr2 := hown.reads
        have hr1' := (hr1.below hbel).more hbel.size
        unfold ballL at hr1'
        rw [← HP.out] at hr1'
        have c3 := ref_Words A1 A2 n1 n2 k1 c2' _ _ true wr hr1' hr2 hm1 (by simp [Hid])
        clear hr1 hr1' hr2 hown
        go_wp2_with (go_at_call 26; refine c3.mono ?_; rintro e w3 ⟨rfl, m, rfl⟩)
        go_ret
        exact ⟨rfl, below_drewN (hb1.trans (hbel.mono hb1.size)) _⟩
  · have c1 := ball_Ball_err nb a r _ w ha rfl h0
    by_cases h1 : bitsErr nb [a] = 0
    · have c2 := fun w => c2 w 0 h1
      have hr : r < 0 ∨ nb < r := by
        by_cases h : r < 0 ∨ nb < r
        · exact h
        · exfalso; apply h0; simp [ballErr, h1, h]
      have HZ : Hid (ballErr nb a r = 4) := by simp [Hid, ballErr, h1, hr]
      rw [HZ.out] at c1
      clear h0 h1 HZ
      by_cases h2 : r < 0
      all_goals
        go_enter Try.func6, Try.ntmps6
        go_wp2_with (first | (go_at_call 23; refine c1.mono ?_; rintro e w1 ⟨rfl, hb1⟩) | (go_at_call 24; refine (c2 _).mono ?_; rintro e w' ⟨rfl, rfl⟩))
        go_ret
        exact ⟨rfl, hb1.alloc hb1.size _⟩
    · have HZ : Hid (ballErr nb a r = bitsErr nb [a]) := by simp [Hid, ballErr, h1]
      have c2 := fun w => c2 w _ rfl
      rw [HZ.out] at c1
      clear h0 HZ
      generalize bitsErr nb [a] = z at *
      have hzb : (z == 0) = false := by simpa using h1
      have hzc : (z != 0) = true := by simpa using h1
      clear h1
      go_enter Try.func6, Try.ntmps6
      go_wp2_with (first | (go_at_call 23; refine c1.mono ?_; rintro e w1 ⟨rfl, hb1⟩) | (go_at_call 24; refine (c2 _).mono ?_; rintro e w' ⟨rfl, rfl⟩))
      go_ret
      exact ⟨rfl, hb1.alloc hb1.size _⟩

/-! ### how many are so near -/
def sizeS (n : Nat) : Nat → Int
  | 0 => 0
  | k + 1 => sizeS n k + chI n k
theorem sizeS_bd (n k : Nat) (hn : n ≤ 12) : 0 ≤ sizeS n k ∧ sizeS n k ≤ 924 * k := by
  induction k with
  | zero => simp [sizeS]
  | succ k ih => have := chI_bd n k hn; rw [sizeS]; omega
def sizeRes (n r : Int) : Int × Int := if andErr n r = 0 then (sizeS n.toNat (r.toNat + 1), 0) else (0, andErr n r)
set_option maxHeartbeats 800000 in
theorem ball_Size (nb r a b : Int) (w : World) (hr : Hid (sizeRes nb r = (a, b))) :
    Calls Try.prog 40 #[.int .i64 nb, .int .i64 r] w (Ret w (.tuple #[.int .i64 a, .int .i64 b])) := by
  have c := fun b hb => ball_Check nb none 0 0 [] b w (Reads.none_) hb (by unfold maxLen; omega) (by simp)
  by_cases hn : nb < 0 ∨ 12 < nb
  · have c1 := c 1 (bitsErr_n [] hn)
    have E : Hid (sizeRes nb r = (0, 1)) := by simp [Hid, sizeRes, andErr, hn]
    clear c hn
    go_enter Try.func40, Try.ntmps40
    go_wp2_with (go_at_call 49; refine c1.mono ?_; rintro e w' ⟨rfl, rfl⟩)
    go_ret2
    exact ⟨ret_ii (by rw [← hr.out, E.out]), rfl⟩
  · have c1 := c 0 (by simp [Hid, bitsErr, hn])
    clear c
    by_cases hk : r < 0 ∨ nb < r
    · have E : Hid (sizeRes nb r = (0, 4)) := by simp [Hid, sizeRes, andErr, hn, hk]
      clear hn
      by_cases h0 : r < 0
      all_goals
        go_enter Try.func40, Try.ntmps40
        go_wp2_with (go_at_call 49; refine c1.mono ?_; rintro e w' ⟨rfl, rfl⟩)
        go_ret2
        exact ⟨ret_ii (by rw [← hr.out, E.out]), rfl⟩
    · have h0 : andErr nb r = 0 := by simp [andErr, hn, hk]
      have E : Hid (sizeRes nb r = (sizeS nb.toNat (r.toNat + 1), 0)) := by simp [Hid, sizeRes, h0]
      obtain ⟨n, k, rfl, rfl, h1, h2⟩ := andErr_ok h0
      simp only [Int.toNat_natCast] at E
      have d1 : decide ((k : Int) < 0) = false := decide_eq_false (by omega)
      have d2 : decide (n < k) = false := decide_eq_false (by omega)
      clear hn hk h0
      go_enter Try.func40, Try.ntmps40
      go_wp2_with (go_at_call 49; refine c1.mono ?_; rintro e w' ⟨rfl, rfl⟩)
      go_loop [7, 25] (fun s i => ∃ j : Nat, j ≤ k + 1 ∧ i = .int .i64 j ∧ s = .int .i64 (sizeS n j)) (fun _ i => k + 1 - (intOf i).toNat)
      case atStart => exact ⟨0, by omega, rfl, rfl⟩
      case round =>
        obtain ⟨j, hj, rfl, rfl⟩ := hrel
        have hbd := sizeS_bd n j h1
        by_cases hlt : j < k + 1
        · have cb := chI_bd n j h1
          have cc := rank_Many n j (chI n j) 0 w (by
            have : andErr (n : Int) (j : Int) = 0 := by unfold andErr; rw [if_neg (by omega), if_neg (by omega)]
            simp [Hid, manyRes, this, chI_binom h1])
          have HN : Hid (sizeS n (j + 1) = sizeS n j + chI n j) := rfl
          generalize chI n j = z at *
          go_wp2_with (go_at_call 54; refine cc.mono ?_; rintro e w' ⟨rfl, rfl⟩)
          go_round
          case rel => exact ⟨j + 1, by omega, by go_num, by rw [HN.out]⟩
          case measure => simp only [intOf]; omega
        · obtain rfl : j = k + 1 := by omega
          go_wp2
          go_ret2
          exact ⟨ret_ii (by rw [← hr.out, E.out]), rfl⟩

set_option maxHeartbeats 800000 in
theorem BallSizes_walk (nb r : Int) (w : World) (_ : (Lit.int .i64 nb).wf = true) (_ : (Lit.int .i64 r).wf = true) :
    Calls Try.prog 12 #[.int .i64 nb, .int .i64 r] w (LawTrue w) := by
  by_cases h0 : andErr nb r = 0
  · have c1' := ball_Size nb r (sizeS nb.toNat (r.toNat + 1)) 0 w (by simp [Hid, sizeRes, h0])
    have c2 := law_bitsAnd nb r 0 w h0
    obtain ⟨n, k, rfl, rfl, h1, h2⟩ := andErr_ok h0
    simp only [Int.toNat_natCast] at c1'
    have c1 := c1'
    clear c1' h0
    obtain ⟨S, hS⟩ : ∃ S, S = sizeS n (k + 1) := ⟨_, rfl⟩
    rw [← hS] at c1
    have HS := Lib.hid hS
    clear hS
    go_enter Try.func12, Try.ntmps12
    go_wp2_with (first | (go_at_call 40; refine c1.mono ?_; rintro e w' ⟨rfl, rfl⟩) | (go_at_call 36; refine c2.mono ?_; rintro e w' ⟨rfl, rfl⟩))
    go_loop [8, 9] (fun s i => ∃ j : Nat, j ≤ k + 1 ∧ i = .int .i64 j ∧ s = .int .i64 (sizeS n j)) (fun _ i => k + 1 - (intOf i).toNat)
    case atStart => exact ⟨0, by omega, rfl, rfl⟩
    case round =>
      obtain ⟨j, hj, rfl, rfl⟩ := hrel
      have hbd := sizeS_bd n j h1
      by_cases hlt : j < k + 1
      · have cb := chI_bd n j h1
        have cc := ref_Many n 2147483648 j (chI n j) w h1 (by omega) (by
          unfold Hid
          rw [Nat.min_eq_right (by have := pow_le12 h1; omega), cnt_chI n j h1])
        have HN : Hid (sizeS n (j + 1) = sizeS n j + chI n j) := rfl
        have hle : (j : Int) ≤ k := by omega
        generalize chI n j = z at *
        go_wp2_with (go_at_call 28; refine cc.mono ?_; rintro e w' ⟨rfl, rfl⟩)
        go_round
        case rel => exact ⟨j + 1, by omega, by go_num, by rw [HN.out]⟩
        case measure => simp only [intOf]; omega
      · obtain rfl : j = k + 1 := by omega
        rw [← HS.out]
        have hle : ¬ ((k + 1 : Nat) : Int) ≤ k := by omega
        go_wp2
        go_ret
        exact .same _
  · have c1 := ball_Size nb r 0 (andErr nb r) w (by simp [Hid, sizeRes, h0])
    have c2 := law_bitsAnd nb r (andErr nb r) w rfl
    generalize andErr nb r = z at *
    go_enter Try.func12, Try.ntmps12
    go_wp2_with (first | (go_at_call 40; refine c1.mono ?_; rintro e w' ⟨rfl, rfl⟩) | (go_at_call 36; refine c2.mono ?_; rintro e w' ⟨rfl, rfl⟩))
    go_ret
    exact .same _
end Go.Proofs.Ytbkgbmnnnlpefaa

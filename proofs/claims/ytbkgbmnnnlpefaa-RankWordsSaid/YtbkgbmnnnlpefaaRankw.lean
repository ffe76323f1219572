import Derived.Test.YtbkgbmnnnlpefaaRank
set_option linter.unusedVariables false
namespace Go.Proofs.Ytbkgbmnnnlpefaa
open Go.RowKit

/-! ### plain numbers: the word of a rank -/
def lw (n : Nat) (k : Int) : List Nat := (List.range (2 ^ n)).filter fun w => decide ((pop w : Int) = k)
theorem lw_len (n : Nat) (k : Int) : (lw n k).length = cnt (List.range (2 ^ n)) k := rfl
theorem lw_next (n : Nat) (k : Int) (hn : n < 32) : lw (n + 1) k = lw n k ++ (lw n (k - 1)).map (2 ^ n + ·) := by
  unfold lw
  have e : List.range (2 ^ (n + 1)) = List.range (2 ^ n) ++ (List.range (2 ^ n)).map (2 ^ n + ·) := by
    rw [Nat.pow_succ, Nat.mul_two, List.range_add]
  rw [e, List.filter_append, List.filter_map]
  refine congrArg (_ ++ ·) (congrArg (List.map _) (List.filter_congr ?_))
  intro z hz
  have := pop_top hn (List.mem_range.1 hz)
  simp only [Function.comp, this]
  refine decide_eq_decide.2 ?_; omega
def wdF : Nat → Int → Int → Nat
  | 0, _, _ => 0
  | b + 1, k, i => if chI b k ≤ i then 2 ^ b + wdF b (k - 1) (i - chI b k) else wdF b k i
theorem wdF_lw (n : Nat) (k i : Int) (hn : n ≤ 12) (h0 : 0 ≤ i) (h1 : i < chI n k) : (lw n k)[i.toNat]? = some (wdF n k i) := by
  induction n generalizing k i with
  | zero =>
    have hk : k = 0 ∧ i = 0 := by
      unfold chI at h1
      split at h1
      · omega
      · have : k = 0 := by omega
        subst this; simp [chL] at h1; omega
    obtain ⟨rfl, rfl⟩ := hk
    rfl
  | succ n ih =>
    have hl : ((lw n k).length : Int) = chI n k := by rw [lw_len, cnt_chI n k (by omega)]
    have hl2 : ((lw n (k - 1)).length : Int) = chI n (k - 1) := by rw [lw_len, cnt_chI n (k - 1) (by omega)]
    have hs : chI (n + 1) k = chI n k + chI n (k - 1) := by
      have h2 : ((lw (n + 1) k).length : Int) = chI (n + 1) k := by rw [lw_len, cnt_chI (n + 1) k hn]
      rw [← h2, lw_next n k (by omega), List.length_append, List.length_map, ← hl, ← hl2]; simp
    rw [wdF, lw_next n k (by omega)]
    split
    · rename_i hc
      rw [List.getElem?_append_right (by omega), List.getElem?_map]
      have e : i.toNat - (lw n k).length = (i - chI n k).toNat := by omega
      rw [e, ih (k - 1) (i - chI n k) (by omega) (by omega) (by omega)]; rfl
    · rw [List.getElem?_append_left (by omega)]
      exact ih k i (by omega) h0 (by omega)
theorem wdF_lt (n : Nat) (k i : Int) (hn : n ≤ 12) (h0 : 0 ≤ i) (h1 : i < chI n k) : wdF n k i < 2 ^ n := by
  have := mem_at (wdF_lw n k i hn h0 h1)
  exact List.mem_range.1 (List.mem_filter.1 this).1
/-- in order: where a word stands -/
theorem lw_at (n : Nat) (k : Int) (j : Nat) (hj : j < 2 ^ n) (hp : (pop j : Int) = k) : (lw n k)[cnt (List.range j) k]? = some j := by
  have e : List.range (2 ^ n) = List.range j ++ (j :: (List.range (2 ^ n - j - 1)).map (j + 1 + ·)) := by
    have h1 : 2 ^ n = j + (2 ^ n - j) := by omega
    have h2 : 2 ^ n - j = 1 + (2 ^ n - j - 1) := by omega
    rw [h1, List.range_add]
    have h3 : j + (2 ^ n - j) - j - 1 = 2 ^ n - j - 1 := by omega
    rw [h3]
    congr 1
    conv => lhs; rw [h2, Nat.add_comm 1, List.range_succ_eq_map]
    simp [List.map_map, Function.comp_def]; omega
  unfold lw cnt
  rw [e, List.filter_append, List.filter_cons, if_pos (by simpa using hp), List.getElem?_append_right (by simp)]
  simp

def wordRes (n k i : Int) : Int × Int := if andErr n k ≠ 0 then (0, andErr n k) else if i < 0 ∨ chI n.toNat k ≤ i then (0, 5) else ((wdF n.toNat k i : Nat), 0)

theorem or_add (acc b : Nat) (h : acc % 2 ^ (b + 1) = 0) : acc ||| 2 ^ b = acc + 2 ^ b := by
  obtain ⟨q, hq⟩ := Nat.dvd_of_mod_eq_zero h
  rw [hq]
  have h2 : 2 ^ b < 2 ^ (b + 1) := Nat.pow_lt_pow_right (by omega) (by omega)
  exact (Nat.two_pow_add_eq_or_of_lt h2 q).symm
theorem shl1_u32 {b : Nat} (h : b ≤ 12) : ((2 : Int) ^ b % 4294967296) = ((2 ^ b : Nat) : Int) := shl_int h

set_option maxHeartbeats 800000 in
theorem rank_Word (n k i : Int) (a b : Int) (w : World) (hi : (Lit.int .i64 i).wf = true) (hr : Hid (wordRes n k i = (a, b))) :
    Calls Try.prog 35 #[.int .i64 n, .int .i64 k, .int .i64 i] w (Ret w (.tuple #[.int .u32 a, .int .i64 b])) := by
  by_cases h0 : andErr n k = 0
  · have c1 := rank_Many n k (binom n.toNat k.toNat) 0 w (by simp [Hid, manyRes, h0])
    have HR : Hid (wordRes n k i = if i < 0 ∨ chI n.toNat k ≤ i then (0, 5) else (((wdF n.toNat k i : Nat) : Int), 0)) := by simp [Hid, wordRes, h0]
    obtain ⟨n, k, rfl, rfl, h1, h2⟩ := andErr_ok h0
    simp only [Int.toNat_natCast] at c1 HR
    rw [← chI_binom h1] at c1
    by_cases hb : i < 0 ∨ chI n k ≤ i
    · have E : Hid (wordRes n k i = (0, 5)) := by have := HR.out; rw [if_pos hb] at this; exact this
      clear HR h0
      generalize chI n k = z at *
      by_cases h0 : i < 0
      all_goals
        go_enter Try.func35, Try.ntmps35
        go_wp2_with (go_at_call 54; refine c1.mono ?_; rintro e w' ⟨rfl, rfl⟩)
        go_ret2
        exact ⟨ret_ii (by rw [← hr.out, E.out]), rfl⟩
    · have E : Hid (wordRes n k i = (((wdF n k i : Nat) : Int), 0)) := by have := HR.out; rw [if_neg hb] at this; exact this
      have hi0 : 0 ≤ i := by omega
      have hi1 : i < chI n k := by omega
      have hbd := chI_bd n k h1
      have HC : Hid (i < chI n k) := hi1
      clear HR h0 hb
      generalize hz : chI n k = z at c1 hi1 hbd
      clear hz
      go_enter Try.func35, Try.ntmps35
      go_wp2_with (go_at_call 54; refine c1.mono ?_; rintro e w' ⟨rfl, rfl⟩)
      go_loop [1, 2, 10, 11] (fun kk ii ww bb => ∃ (j acc : Nat) (q t : Int), j ≤ n ∧ bb = .int .i64 (j - 1) ∧ kk = .int .i64 q ∧ ii = .int .i64 t ∧ ww = .int .u32 acc ∧ q ≤ 12 ∧ 0 ≤ q + (n - j) ∧ 0 ≤ t ∧ t ≤ 924 ∧ acc < 4294967296 ∧ Hid (acc % 2 ^ j = 0) ∧ Hid (acc + wdF j q t = wdF n k i)) (fun _ _ _ bb => (intOf bb + 1).toNat)
      case atStart => exact ⟨n, 0, k, i, by omega, rfl, rfl, rfl, rfl, by omega, by omega, by omega, by omega, by omega, by simp [Hid], by simp [Hid]⟩
      case round =>
        obtain ⟨j, acc, q, t, hj, rfl, rfl, rfl, rfl, hq1, hq2, ht1, ht2, ha, hd, he⟩ := hrel
        by_cases hj0 : j = 0
        · subst hj0
          have HT : Hid (acc = wdF n k i) := by have := he.out; simpa [Hid, wdF] using this
          go_wp2
          go_ret2
          exact ⟨ret_ii (by rw [← hr.out, E.out, HT.out]), rfl⟩
        · obtain ⟨s, rfl⟩ : ∃ s, j = s + 1 := ⟨j - 1, by omega⟩
          have e1 : ((s + 1 : Nat) : Int) - 1 = (s : Int) := by omega
          rw [e1]
          clear e1
          have hbs := chI_bd s q (by omega)
          have cc := fun w => rank_choose s q (chI s q) w (by omega) rfl
          by_cases hc : chI s q ≤ t
          · have hp := pow_le12 (m := s) (by omega)
            have hm := u32_or_nat acc (2 ^ s) ha (by omega)
            have hsum : acc ||| 2 ^ s = acc + 2 ^ s := or_add acc s hd.out
            have es := shl1_u32 (b := s) (by omega)
            have HE : Hid (acc + 2 ^ s + wdF s (q - 1) (t - chI s q) = wdF n k i) := by
              have := he.out; rw [wdF, if_pos hc] at this; unfold Hid; omega
            have HD : Hid ((acc + 2 ^ s) % 2 ^ s = 0) := by
              have h1 := hd.out
              have h2 : acc % 2 ^ s = 0 := by
                have := Nat.mod_mod_of_dvd acc (⟨2, by rw [Nat.pow_succ]⟩ : 2 ^ s ∣ 2 ^ (s + 1))
                rw [h1] at this; rw [← this]; simp
              unfold Hid; rw [Nat.add_mod_right]; exact h2
            have HL : acc + 2 ^ s < 4294967296 := by
              rw [← hsum]; exact Nat.or_lt_two_pow (n := 32) ha (by have := hp.2; exact Nat.lt_of_le_of_lt this (by decide))
            rw [hsum] at hm
            obtain ⟨p, hp2⟩ : ∃ p, p = 2 ^ s := ⟨_, rfl⟩
            rw [← hp2] at hm es HE HD HL hp
            have HP := Lib.hid hp2
            rw [show ((2 : Int) ^ s % 4294967296) = (p : Int) from es] at es
            clear hp2 hsum es
            have es := shl1_u32 (b := s) (by omega)
            rw [← HP.out] at es
            generalize chI s q = z2 at *
            go_wp2_with (go_at_call 50; refine (cc _).mono ?_; rintro e w' ⟨rfl, rfl⟩)
            go_round
            case rel => exact ⟨s, acc + p, q - 1, t - z2, by omega, by go_num, rfl, rfl, rfl, by omega, by omega, by omega, by omega, HL, by unfold Hid; rw [← HP.out]; exact HD.out, HE⟩
            case measure => simp only [intOf]; omega
          · have HE : Hid (acc + wdF s q t = wdF n k i) := by
              have := he.out; rw [wdF, if_neg hc] at this; exact this
            have HD : Hid (acc % 2 ^ s = 0) := by
              have h1 := hd.out
              have := Nat.mod_mod_of_dvd acc (⟨2, by rw [Nat.pow_succ]⟩ : 2 ^ s ∣ 2 ^ (s + 1))
              rw [h1] at this; unfold Hid; rw [← this]; simp
            generalize chI s q = z2 at *
            go_wp2_with (go_at_call 50; refine (cc _).mono ?_; rintro e w' ⟨rfl, rfl⟩)
            go_round
            case rel => exact ⟨s, acc, q, t, by omega, by go_num, rfl, rfl, rfl, by omega, by omega, by omega, by omega, ha, HD, HE⟩
            case measure => simp only [intOf]; omega
  · have c1 := rank_Many n k 0 (andErr n k) w (by simp [Hid, manyRes, h0])
    have E : Hid (wordRes n k i = (0, andErr n k)) := by simp [Hid, wordRes, h0]
    generalize andErr n k = z at *
    go_enter Try.func35, Try.ntmps35
    go_wp2_with (go_at_call 54; refine c1.mono ?_; rintro e w' ⟨rfl, rfl⟩)
    go_ret2
    exact ⟨ret_ii (by rw [← hr.out, E.out]), rfl⟩

set_option maxHeartbeats 400000 in
theorem ref_Word (n : Nat) (k i : Int) (a : Int) (w : World) (hn : n ≤ 12) (h0 : 0 ≤ i) (h1 : i < chI n k) (hr : Hid (((wdF n k i : Nat) : Int) = a)) :
    Calls Try.prog 37 #[.int .i64 (n : Int), .int .i64 k, .int .i64 i] w (Ret w (.int .u32 a)) := by
  obtain ⟨p, hp⟩ : ∃ p, p = 2 ^ n := ⟨_, rfl⟩
  have hp12 := pow_le12 hn
  have es := shl_int hn
  rw [← hp] at es hp12
  have HP := Lib.hid hp
  have HA : Hid ((lw n k)[i.toNat]? = some (wdF n k i)) := wdF_lw n k i hn h0 h1
  have hbd := chI_bd n k hn
  have HC : Hid ((cnt (List.range p) k : Int) = chI n k) := by unfold Hid; rw [hp]; exact cnt_chI n k hn
  have hi9 : i < 924 := by omega
  have HI := Lib.hid h1
  clear hp h1 hbd
  go_enter Try.func37, Try.ntmps37
  go_wp2
  go_loop [2, 7] (fun ii v => ∃ (j : Nat) (t : Int), j ≤ p ∧ v = .int .u32 j ∧ ii = .int .i64 t ∧ 0 ≤ t ∧ t ≤ 924 ∧ Hid (t + cnt (List.range j) k = i)) (fun _ v => p - (intOf v).toNat)
  case atStart => exact ⟨0, i, by omega, rfl, rfl, h0, by omega, by simp [Hid, cnt]⟩
  case round =>
    obtain ⟨j, t, hj, rfl, rfl, ht0, ht9, hrel⟩ := hrel
    by_cases hlt : j < p
    · have c := ref_Size j w (by omega)
      have HN := Lib.hid (cnt_next j k)
      by_cases hq : (pop j : Int) = k
      · have hqb : ((pop j : Int) == k) = true := by simpa using hq
        by_cases ht : t = 0
        · have HJ : Hid (wdF n k i = j) := by
            have h2 := lw_at n k j (by rw [← HP.out]; exact hlt) hq
            have h3 : i.toNat = cnt (List.range j) k := by have := hrel.out; omega
            have h4 := HA.out
            rw [h3, h2] at h4; injection h4 with h4; exact h4.symm
          have htb : (t == 0) = true := by simpa using ht
          clear hq ht HN
          generalize pop j = q at *
          go_wp2_with (go_at_call 29; refine c.mono ?_; rintro e w' ⟨rfl, rfl⟩)
          go_ret
          exact ⟨ret_i (by rw [← hr.out, HJ.out]), rfl⟩
        · have HR : Hid (t - 1 + cnt (List.range (j + 1)) k = i) := by
            have h1 := HN.out; rw [if_pos hq] at h1; have := hrel.out; unfold Hid; rw [h1]; omega
          have htb : (t == 0) = false := by simpa using ht
          clear hq HN
          generalize pop j = q at *
          go_wp2_with (go_at_call 29; refine c.mono ?_; rintro e w' ⟨rfl, rfl⟩)
          go_round
          case rel => exact ⟨j + 1, t - 1, by omega, by go_num, rfl, by omega, by omega, HR⟩
          case measure => simp only [intOf]; omega
      · have hqb : ((pop j : Int) == k) = false := by simpa using hq
        have HR : Hid (t + cnt (List.range (j + 1)) k = i) := by
          have h1 := HN.out; rw [if_neg hq] at h1; have := hrel.out; unfold Hid; rw [h1]; omega
        clear hq HN
        generalize pop j = q at *
        go_wp2_with (go_at_call 29; refine c.mono ?_; rintro e w' ⟨rfl, rfl⟩)
        go_round
        case rel => exact ⟨j + 1, t, by omega, by go_num, rfl, by omega, by omega, HR⟩
        case measure => simp only [intOf]; omega
    · obtain rfl : j = p := by omega
      exfalso
      have h1 := hrel.out
      have h2 := HC.out
      have h3 := HI.out
      omega

set_option maxHeartbeats 800000 in
theorem RankWords_walk (n k i : Int) (w : World) (_ : (Lit.int .i64 n).wf = true) (_ : (Lit.int .i64 k).wf = true) (hi : (Lit.int .i64 i).wf = true) :
    Calls Try.prog 10 #[.int .i64 n, .int .i64 k, .int .i64 i] w (LawTrue w) := by
  by_cases h0 : andErr n k = 0
  · have c2 := law_bitsAnd n k 0 w h0
    have HR : Hid (wordRes n k i = if i < 0 ∨ chI n.toNat k ≤ i then (0, 5) else (((wdF n.toNat k i : Nat) : Int), 0)) := by simp [Hid, wordRes, h0]
    obtain ⟨n, k, rfl, rfl, h1, h2⟩ := andErr_ok h0
    simp only [Int.toNat_natCast] at HR
    have c3 := ref_Many n 2147483648 k (chI n k) w h1 (by omega) (by
      unfold Hid
      rw [Nat.min_eq_right (by have := pow_le12 h1; omega), cnt_chI n k h1])
    by_cases hb : i < 0 ∨ chI n k ≤ i
    · have c1 := rank_Word n k i 0 5 w hi (by have := HR.out; rw [if_pos hb] at this; exact this)
      clear HR h0
      generalize chI n k = z at *
      by_cases h0 : i < 0
      all_goals
        go_enter Try.func10, Try.ntmps10
        go_wp2_with (first | (go_at_call 35; refine c1.mono ?_; rintro e w' ⟨rfl, rfl⟩) | (go_at_call 36; refine c2.mono ?_; rintro e w' ⟨rfl, rfl⟩) | (go_at_call 28; refine c3.mono ?_; rintro e w' ⟨rfl, rfl⟩))
        go_ret
        exact .same _
    · have c1 := rank_Word n k i (wdF n k i : Nat) 0 w hi (by have := HR.out; rw [if_neg hb] at this; exact this)
      have h3 : 0 ≤ i := by omega
      have h4 : i < chI n k := by omega
      have c4 := ref_Word n k i _ w h1 h3 h4 rfl
      clear HR h0 hb
      generalize wdF n k i = y at *
      generalize chI n k = z at *
      go_enter Try.func10, Try.ntmps10
      go_wp2_with (first | (go_at_call 35; refine c1.mono ?_; rintro e w' ⟨rfl, rfl⟩) | (go_at_call 36; refine c2.mono ?_; rintro e w' ⟨rfl, rfl⟩) | (go_at_call 28; refine c3.mono ?_; rintro e w' ⟨rfl, rfl⟩) | (go_at_call 37; refine c4.mono ?_; rintro e w' ⟨rfl, rfl⟩))
      go_ret
      exact .same _
  · have c1 := rank_Word n k i 0 (andErr n k) w hi (by simp [Hid, wordRes, h0])
    have c2 := law_bitsAnd n k (andErr n k) w rfl
    generalize andErr n k = z at *
    go_enter Try.func10, Try.ntmps10
    go_wp2_with (first | (go_at_call 35; refine c1.mono ?_; rintro e w' ⟨rfl, rfl⟩) | (go_at_call 36; refine c2.mono ?_; rintro e w' ⟨rfl, rfl⟩))
    go_ret
    exact .same _
end Go.Proofs.Ytbkgbmnnnlpefaa

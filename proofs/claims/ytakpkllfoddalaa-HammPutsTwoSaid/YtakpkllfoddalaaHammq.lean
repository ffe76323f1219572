import Derived.Test.YtakpkllfoddalaaHammp
set_option linter.unusedVariables false
namespace Go.Proofs.Ytakpkllfoddalaa
open Go.RowKit

set_option maxHeartbeats 800000 in
theorem hamm_Put_err (r : Int) (A : Option Addr) (n c : Nat) (z : Int) (w : World) (hm : n ≤ maxLen) (hz : Hid (hammErr r n (-r) = z)) (h0 : z ≠ 0) :
    Calls Try.prog 23 #[.int .i64 r, .slice A n c] w (Ret w (.tuple #[.slice none 0 0, .int .i64 z])) := by
  unfold maxLen at hm
  by_cases h1 : r < 2
  · have HB : Hid (z = 4) := by unfold Hid; rw [← hz.out, hammErr, if_pos (.inl h1)]
    go_enter Try.func23, Try.ntmps23
    go_wp2
    go_ret2
    exact ⟨by rw [HB.out]; rfl, rfl⟩
  · by_cases h2 : 4 < r
    · have HB : Hid (z = 4) := by unfold Hid; rw [← hz.out, hammErr, if_pos (.inr h2)]
      go_enter Try.func23, Try.ntmps23
      go_wp2
      go_ret2
      exact ⟨by rw [HB.out]; rfl, rfl⟩
    · obtain ⟨k, rfl⟩ := Int.eq_ofNat_of_zero_le (show 0 ≤ r by omega)
      have es := wrap_pow k (by omega)
      have hp : 2 ^ k ≤ 2 ^ 4 := Nat.pow_le_pow_right (by omega) (by omega)
      have d1 : decide ((k : Int) < 2) = false := decide_eq_false h1
      have d2 : decide ((4 : Int) < k) = false := decide_eq_false h2
      have hE : Hid (hammErr k n (-k) = if (n : Int) ≠ ((2 ^ k : Nat) : Int) - 1 + (-(k : Int)) then 3 else 0) := by
        unfold Hid hammErr; rw [if_neg (by omega), Int.toNat_natCast]
      generalize 2 ^ k = t at *
      have h3 : (n : Int) ≠ (t : Int) - 1 - k := by
        intro h; apply h0; rw [← hz.out, hE.out, if_neg (by omega)]
      have HB : Hid (z = 3) := by unfold Hid; rw [← hz.out, hE.out, if_pos (by omega)]
      have e1 : ((n : Int) != (t : Int) - 1 - k) = true := by simp; exact h3
      clear h3 h0
      go_enter Try.func23, Try.ntmps23
      go_wp2
      go_ret2
      exact ⟨by rw [HB.out]; rfl, rfl⟩

theorem xor_ne {p s : Nat} (h : s ≠ p) : p ^^^ s ≠ 0 := by
  intro h0
  apply h
  have := congrArg (fun x => x ^^^ s) h0
  simpa [Nat.xor_assoc] using this.symm

set_option maxHeartbeats 1600000 in
theorem ref_Hamm (r : Nat) (A : Option Addr) (m n c : Nat) (D : List Bool) (p : Nat) (w : World) (h : Reads w w.heap.size A m (vb D)) (hr2 : 2 ≤ r) (hr4 : r ≤ 4) (hn : Hid (n + 1 = 2 ^ r)) (hm : Hid (m + r = n)) (hp : Hid (ptrL (layL D 0 n) = p)) :
    Calls Try.prog 25 #[.int .i64 (r : Int), .slice A m c] w (RetS w 4 (vb (layL D p n))) := by
  have H := Lib.hid h.bool_len
  have hnr : Hid (n < 2 ^ r) := by have := hn.out; unfold Hid; omega
  have es : wrap64 ((2 : Int) ^ r) = (n : Int) + 1 := by rw [wrap_pow r (by omega), ← hn.out]; omega
  have hn15 : n ≤ 15 := by have : 2 ^ r ≤ 2 ^ 4 := Nat.pow_le_pow_right (by omega) hr4; have := hn.out; omega
  have hm15 : m ≤ 15 := by have := hm.out; omega
  have hplt : p < 2 ^ r := by
    have := ptrL_lt (l := layL D 0 n) (r := r) (by rw [layL_len]; have := hn.out; omega)
    rwa [hp.out] at this
  have hpl : p ≤ 15 := by have : 2 ^ r ≤ 2 ^ 4 := Nat.pow_le_pow_right (by omega) hr4; omega
  have hptr : Hid (∀ s, s ≤ p → ptrL (layL D s n) = p ^^^ s) := fun s hs => by
    rw [ptr_lay, ptr_split, ptr_set hr2 hr4 hn.out (by omega), ← ptr_lay, hp.out]
  clear hplt
  go_enter Try.func25, Try.ntmps25
  go_wp2
  go_loopw [5] (fun sv wr => ∃ s : Nat, s ≤ p ∧ sv = .int .u32 s ∧ Below w.heap.size w wr) (fun sv _ => p - (intOf sv).toNat)
  case atStart => exact ⟨0, by omega, rfl, Below.refl _ _⟩
  case round =>
    obtain ⟨s, hs, rfl, hb⟩ := hrel
    go_wp2
    have hbase := hb.size
    go_loopw [6, 7, 8, 9] (fun l d k pl wi => ∃ i : Nat, i ≤ n ∧ pl = .int .i64 ((i : Int) + 1) ∧ d = .int .i64 ((i - pwc i : Nat) : Int) ∧ k = .int .i64 ((pwc i : Nat) : Int) ∧ Own wi w.heap.size 4 l (vb (layL D s i)) ∧ Below w.heap.size w wi) (fun _ _ _ pl _ => n + 1 - (intOf pl).toNat)
    case atStart => exact ⟨0, by omega, rfl, rfl, rfl, Own.nil _ _ _, hb⟩
    case round =>
      obtain ⟨i, hi, rfl, rfl, rfl, hown, hb2⟩ := hrel
      have hB := hb2.size
      have hpw := pwc_le i
      have hl : (vb (layL D s i)).length ≤ 15 := by rw [List.length_map, layL_len]; omega
      by_cases hlt : i < n
      · have cp := fun w => ref_Power (i + 1) w (by omega) (by omega)
        have e1 : ((i + 1 : Nat) : Int) = (i : Int) + 1 := by omega
        rw [e1] at cp
        clear e1
        have hpn : pwc (i + 1) = pwc i + if isPow (i + 1) then 1 else 0 := rfl
        have HN := Lib.hid (layL_next D s i)
        cases hip : isPow (i + 1)
        · rw [hip] at cp hpn
          have hnp := np_lt hr2 hr4 hn.out hlt hip
          have hd : Hid (i + 1 - pwc (i + 1) = (i - pwc i) + 1) := by unfold Hid; rw [hpn]; simp; omega
          have hk : Hid (pwc (i + 1) = pwc i) := by unfold Hid; rw [hpn]; simp
          have hdm : i - pwc i < m := by have := hm.out; omega
          obtain ⟨ad2, x, e, hbb, hx, hcx⟩ := (h.below hb2).bool_at hdm
          subst e
          have hfx : layF D s i = x := by unfold layF; rw [hip]; simp only [Bool.false_eq_true, if_false, List.getD]; rw [hx]; rfl
          rw [hfx] at HN
          clear hx hpn hnp hfx
          have hdd : i - pwc i ≤ 15 := by omega
          generalize i - pwc i = d at *
          generalize pwc i = k at *
          have i1 : (0 : Int) ≤ (d : Int) := Int.natCast_nonneg d
          have i2 : (d : Int) < (m : Int) := Int.ofNat_lt.2 hdm
          go_wp2_with (first | (go_at_call 52; refine (cp _).mono ?_; rintro e w' ⟨rfl, rfl⟩) | (at_builtin; refine app1 el_clone_bools rfl _ _ rfl rfl hown _ _ rfl rfl (by unfold maxLen; omega) (by omega) hB ?_; intro v1 w1 ho1 hb1 _ _))
          go_roundw
          case rel => exact ⟨i + 1, by omega, by go_num, by rw [hd.out]; go_num, by rw [hk.out], by rw [HN.out]; simpa [vb] using ho1, hb2.trans hb1⟩
          case measure => simp only [intOf]; omega
        · rw [hip] at cp hpn
          have hd : Hid (i + 1 - pwc (i + 1) = i - pwc i) := by unfold Hid; rw [hpn]; simp
          have hk : Hid (pwc (i + 1) = pwc i + 1) := by unfold Hid; rw [hpn]; simp
          have hfx : layF D s i = bitB s (pwc i) := by unfold layF; rw [hip]; rfl
          rw [hfx] at HN
          have cb := fun w => ref_Bit s (pwc i) w (by omega) (by omega)
          have hkk : pwc i ≤ 15 := by omega
          clear hpn hfx hpw
          generalize bitB s (pwc i) = bb at *
          generalize i - pwc i = d at *
          generalize pwc i = k at *
          go_wp2_with (first | (go_at_call 52; refine (cp _).mono ?_; rintro e w' ⟨rfl, rfl⟩) | (go_at_call 17; refine (cb _).mono ?_; rintro e w' ⟨rfl, rfl⟩) | (at_builtin; refine app1 el_clone_bools rfl _ _ rfl rfl hown _ _ rfl rfl (by unfold maxLen; omega) (by omega) hB ?_; intro v1 w1 ho1 hb1 _ _))
          go_roundw
          case rel => exact ⟨i + 1, by omega, by go_num, by rw [hd.out], by rw [hk.out]; go_num, by rw [HN.out]; simpa [vb] using ho1, hb2.trans hb1⟩
          case measure => simp only [intOf]; omega
      · obtain rfl : i = n := by omega
        obtain ⟨A2, c2, e⟩ := hown.form
        have hlv : (vb (layL D s i)).length = i := by rw [List.length_map, layL_len]
        rw [hlv] at e
        subst e
        clear hlv
        have hptrs := hptr.out s hs
        by_cases hsp : s = p
        · subst hsp
          have c1 := ref_Pointer r A2 i c2 (layL D s i) 0 wr hown.reads hn15 hr4 hnr.out (by unfold Hid; rw [hptrs, Nat.xor_self])
          clear hptrs hpw
          go_wp2_with (go_at_call 53; refine c1.mono ?_; rintro e w' ⟨rfl, rfl⟩)
          go_ret
          exact ⟨A2, i, c2, rfl, hown, hb2⟩
        · have hx := xor_ne hsp
          have c1 := ref_Pointer r A2 i c2 (layL D s i) (p ^^^ s) wr hown.reads hn15 hr4 hnr.out hptrs
          have hx2 : p ^^^ s < 16 := Nat.xor_lt_two_pow (n := 4) (Nat.lt_succ_of_le hpl) (Nat.lt_succ_of_le (Nat.le_trans hs hpl))
          have e1 : (((p ^^^ s : Nat) : Int) == 0) = false := by simp; omega
          have hsp' : s + 1 ≤ p := by omega
          clear hptrs hpw hx hsp
          generalize p ^^^ s = q at *
          go_wp2_with (go_at_call 53; refine c1.mono ?_; rintro e w' ⟨rfl, rfl⟩)
          go_roundw
          case rel => exact ⟨s + 1, hsp', by go_num, hb2⟩
          case measure => simp only [intOf]; omega

set_option maxHeartbeats 800000 in
theorem HammPuts_walk (r : Int) (A : Option Addr) (n c : Nat) (D : List Bool) (w : World) (_ : (Lit.int .i64 r).wf = true) (h : Reads w w.heap.size A n (vb D)) (hs : n * 1 ≤ reachBytes) :
    Calls Try.prog 5 #[.int .i64 r, .slice A n c] w (LawTrue w) := by
  have hm : n ≤ maxLen := by unfold reachBytes at hs; unfold maxLen; omega
  have hm2 : n ≤ 9223372036854775807 := by unfold maxLen at hm; omega
  by_cases h0 : hammErr r n (-r) = 0
  · obtain ⟨k, rfl, hk2, hk4, hn⟩ := hammErr_ok h0
    have c2 := fun w => law_hammCheck k n (-(k : Int)) 0 w (by omega) (by omega) h0
    obtain ⟨N, hN⟩ : ∃ N, N + 1 = 2 ^ k := ⟨2 ^ k - 1, by have : 0 < 2 ^ k := Nat.pow_pos (by omega); omega⟩
    have hmr : n + k = N := by omega
    obtain ⟨p, hp⟩ : ∃ p, ptrL (layL D 0 N) = p := ⟨_, rfl⟩
    have c1 := hamm_Put k A n N c D p w h hk2 hk4 hN hmr hp
    have c3 := fun (w1 : World) (hb1 : Below w.heap.size w w1) => ref_Hamm k A n N c D p w1 ((h.below hb1).more hb1.size) hk2 hk4 hN hmr hp
    have hN15 : N ≤ 15 := by have : 2 ^ k ≤ 2 ^ 4 := Nat.pow_le_pow_right (by omega) hk4; omega
    have hL := Lib.hid (layL_len D p N)
    clear hn hN hmr hp h0
    generalize layL D p N = L at *
    go_enter Try.func5, Try.ntmps5
    go_wp2_with (first | (go_at_call 23; refine c1.mono ?_; rintro e w1 ⟨A1, n1, k1, rfl, ho1, hb1⟩) | (go_at_call 24; refine (c2 _).mono ?_; rintro e w' ⟨rfl, rfl⟩) | (go_at_call 25; refine (c3 _ hb1).mono ?_; rintro e w2 ⟨A2, n2, k2, rfl, ho2, hb2⟩; have c4 := ref_Bools A1 A2 n1 n2 k1 k2 _ _ true w2 (ho1.reads.below hb2) ho2.reads (by rw [← ho1.len, List.length_map, hL.out]; unfold maxLen; omega) (by simp [Hid])) | (go_at_call 22; refine c4.mono ?_; rintro e w3 ⟨rfl, m3, rfl⟩))
    go_ret
    exact ⟨rfl, below_drewN (hb1.trans (hb2.mono hb1.size)) _⟩
  · have c1 := hamm_Put_err r A n c (hammErr r n (-r)) w hm rfl h0
    have hz : (hammErr r n (-r) != 0) = true := by simpa using h0
    have c2 : ∀ m w, ((m = -r) ∨ r < 2 ∨ 4 < r) → Calls Try.prog 24 #[.int .i64 r, .int .i64 n, .int .i64 m] w (Ret w (.int .i64 (hammErr r n (-r)))) := fun m w hmr => by
      refine law_hammCheck r n m _ w (by omega) (by omega) ?_
      unfold Hid
      by_cases hr : r < 2 ∨ 4 < r
      · rw [hammErr, if_pos hr, hammErr, if_pos hr]
      · rw [show m = -r by omega]
    by_cases hr : r < 2 ∨ 4 < r
    · have c2 := fun m w => c2 m w (.inr hr)
      clear h0 hr
      generalize hammErr r n (-r) = z at *
      go_enter Try.func5, Try.ntmps5
      go_wp2_with (first | (go_at_call 23; refine c1.mono ?_; rintro e w1 ⟨rfl, rfl⟩) | (go_at_call 24; refine (c2 _ _).mono ?_; rintro e w' ⟨rfl, rfl⟩))
      go_ret
      exact .same _
    · have c2 := fun w => c2 (-r) w (.inl rfl)
      have hr1 : 2 ≤ r := by omega
      have hr2 : r ≤ 4 := by omega
      clear h0 hr
      generalize hammErr r n (-r) = z at *
      go_enter Try.func5, Try.ntmps5
      go_wp2_with (first | (go_at_call 23; refine c1.mono ?_; rintro e w1 ⟨rfl, rfl⟩) | (go_at_call 24; refine (c2 _).mono ?_; rintro e w' ⟨rfl, rfl⟩))
      go_ret
      exact .same _
end Go.Proofs.Ytakpkllfoddalaa

import Derived.Test.YtakpkllfoddalaaHammf
set_option linter.unusedVariables false
namespace Go.Proofs.Ytakpkllfoddalaa
open Go.RowKit

theorem Reads.takeH {w : World} {B n k : Nat} {A : Option Addr} {l : List Bool} (h : Reads w B A n (vb l)) (hk : k ≤ n) : Reads w B A k (vb (l.take k)) := by
  have := h.take hk
  rwa [← List.map_take] at this
/-- an odd number is set -/
def oddL (l : List Bool) : Bool := onesL l % 2 == 1
theorem oddL_next {l : List Bool} {k : Nat} {x : Bool} (h : l[k]? = some x) : oddL (l.take (k + 1)) = (oddL (l.take k) != x) := by
  unfold oddL
  rw [onesL_next h]
  have : onesL (l.take k) % 2 = 0 ∨ onesL (l.take k) % 2 = 1 := by omega
  cases x
  · simp
  · rcases this with h0 | h0
    · rw [show (onesL (l.take k) + if true = true then 1 else 0) % 2 = 1 from by simp; omega, h0]; rfl
    · rw [show (onesL (l.take k) + if true = true then 1 else 0) % 2 = 0 from by simp; omega, h0]; rfl

set_option maxHeartbeats 400000 in
theorem hamm_odd (A : Option Addr) (n c : Nat) (l : List Bool) (b : Bool) (w : World) {B : Nat} (h : Reads w B A n (vb l)) (hn : n ≤ 1000) (hr : Hid (oddL l = b)) :
    Calls Try.prog 62 #[.slice A n c] w (Ret w (.bool b)) := by
  have H := Lib.hid h.bool_len
  go_enter Try.func62, Try.ntmps62
  go_wp2
  go_loop [3, 8] (fun s i => ∃ k : Nat, k ≤ n ∧ i = .int .i64 k ∧ s = .bool (oddL (l.take k))) (fun _ i => n - (intOf i).toNat)
  case atStart => exact ⟨0, by omega, rfl, by simp [oddL, onesL]⟩
  case round =>
    obtain ⟨k, hk, rfl, rfl⟩ := hrel
    by_cases hlt : k < n
    · obtain ⟨ad, x, rfl, hb, hx, hc⟩ := h.bool_at hlt
      have HX := Lib.hid (oddL_next hx)
      clear hx
      generalize oddL (l.take k) = o at *
      go_wp2
      go_round
      case rel => exact ⟨k + 1, by omega, by go_num, by rw [HX.out]; cases o <;> cases x <;> rfl⟩
      case measure => simp [intOf]; omega
    · obtain rfl : k = n := by omega
      have ht : oddL (l.take k) = b := by rw [← hr.out, List.take_of_length_le (Nat.le_of_eq H.out)]
      rw [ht]
      clear ht
      go_wp2
      go_ret
      exact ⟨rfl, rfl⟩
set_option maxHeartbeats 400000 in
theorem ref_OddBits (A : Option Addr) (n c : Nat) (l : List Bool) (b : Bool) (w : World) {B : Nat} (h : Reads w B A n (vb l)) (hn : n ≤ 1000) (hr : Hid (oddL l = b)) :
    Calls Try.prog 34 #[.slice A n c] w (Ret w (.bool b)) := by
  have H := Lib.hid h.bool_len
  go_enter Try.func34, Try.ntmps34
  go_wp2
  go_loop [3, 8] (fun s i => ∃ k : Nat, k ≤ n ∧ i = .int .i64 k ∧ s = .int .i64 (onesL (l.take k) : Int)) (fun _ i => n - (intOf i).toNat)
  case atStart => exact ⟨0, by omega, rfl, by simp [onesL]⟩
  case round =>
    obtain ⟨k, hk, rfl, rfl⟩ := hrel
    have hbd := onesL_le (l.take k)
    have hbd2 : (l.take k).length ≤ k := List.length_take_le _ _
    have hq : onesL (l.take k) ≤ k := by omega
    clear hbd hbd2
    by_cases hlt : k < n
    · obtain ⟨ad, x, rfl, hb, hx, hc⟩ := h.bool_at hlt
      have HX := Lib.hid (onesL_next hx)
      clear hx
      generalize onesL (l.take k) = q at *
      cases x
      · go_wp2
        go_round
        case rel => exact ⟨k + 1, by omega, by go_num, by rw [HX.out]; simp⟩
        case measure => simp [intOf]; omega
      · go_wp2
        go_round
        case rel => exact ⟨k + 1, by omega, by go_num, by rw [HX.out]; simp⟩
        case measure => simp [intOf]; omega
    · obtain rfl : k = n := by omega
      have ht : onesL (l.take k) = onesL l := by rw [List.take_of_length_le (Nat.le_of_eq H.out)]
      have hE : (((onesL l : Nat) : Int) % 2 == 1) = b := by rw [i64_mod2, ← hr.out]; rfl
      rw [ht] at hq ⊢
      have HE := Lib.hid hE
      clear ht hE
      generalize onesL l = q at *
      go_wp2
      go_ret
      exact ⟨ret_b (by rw [← HE.out]), rfl⟩

/-- what Fix2 tells -/
def fix2Bad (l : List Bool) (p : Nat) : Bool := p != 0 && !oddL l
set_option maxHeartbeats 800000 in
theorem hamm_Fix2 (r : Nat) (A : Option Addr) (n N c : Nat) (l : List Bool) (p : Nat) (o : Bool) (w : World) (h : Reads w w.heap.size A N (vb l)) (hc : N ≤ c) (hr2 : 2 ≤ r) (hr4 : r ≤ 4) (hn : Hid (n + 1 = 2 ^ r)) (hN : Hid (N = n + 1)) (hp : Hid (ptrL (l.take n) = p)) (ho : Hid (oddL l = o)) :
    Calls Try.prog 40 #[.int .i64 (r : Int), .slice A N c] w (fun e w' => Below w.heap.size w w' ∧
      (((p != 0 && !o) = false ∧ ∃ A' n' c', e = .returned (.tuple #[.slice A' n' c', .int .i64 p, .int .i64 0]) ∧ Own w' w.heap.size 4 (.slice A' n' c') (vb (dataL (fixL (l.take n) p)))) ∨
      ((p != 0 && !o) = true ∧ e = .returned (.tuple #[.slice none 0 0, .int .i64 0, .int .i64 8])))) := by
  have H := Lib.hid h.bool_len
  have es : wrap64 ((2 : Int) ^ r) = (N : Int) := by rw [wrap_pow r (by omega), ← hn.out, ← hN.out]
  have hN15 : N ≤ 16 := by have : 2 ^ r ≤ 2 ^ 4 := Nat.pow_le_pow_right (by omega) hr4; have := hn.out; have := hN.out; omega
  have hNi : (N : Int) - 1 = (n : Int) := by have := hN.out; omega
  have hnN : n ≤ N := by have := hN.out; omega
  obtain ⟨ad, e⟩ := h.addr (by have := hN.out; omega)
  subst e
  have hrd := h.takeH hnN
  have c1 := hamm_Fix r (some ad) n c (l.take n) p w hrd hr2 hr4 hn.out hp
  have c2 := fun (w1 : World) (hb : Below w.heap.size w w1) => hamm_odd (some ad) N c l o w1 (h.below hb) (by omega) ho
  have hpn : p ≤ 16 := by
    have := ptrL_lt (l := l.take n) (r := r) (by rw [List.length_take, H.out]; have := hn.out; omega)
    have h2 : 2 ^ r ≤ 2 ^ 4 := Nat.pow_le_pow_right (by omega) hr4
    rw [hp.out] at this; omega
  have hcn : n ≤ c := by omega
  generalize dataL (fixL (l.take n) p) = D at *
  by_cases hp0 : p = 0
  · have e1 : ((p : Int) != 0) = false := by simp; omega
    have HC : Hid ((p != 0 && !o) = false) := by unfold Hid; rw [hp0]; rfl
    clear hp0
    go_enter Try.func40, Try.ntmps40
    go_wp2_with (go_at_call 31; refine c1.mono ?_; rintro e w1 ⟨A1, n1, k1, rfl, ho1, hb1⟩)
    go_ret3
    exact ⟨hb1, .inl ⟨HC.out, A1, n1, k1, rfl, ho1⟩⟩
  · have e1 : ((p : Int) != 0) = true := by simp; omega
    cases o
    · have HC : Hid ((p != 0 && !false) = true) := by unfold Hid; simpa using hp0
      clear hp0
      go_enter Try.func40, Try.ntmps40
      go_wp2_with (first | (go_at_call 31; refine c1.mono ?_; rintro e w1 ⟨A1, n1, k1, rfl, ho1, hb1⟩) | (go_at_call 62; refine (c2 _ hb1).mono ?_; rintro e w' ⟨rfl, rfl⟩))
      go_ret3
      exact ⟨hb1, .inr ⟨HC.out, rfl⟩⟩
    · have HC : Hid ((p != 0 && !true) = false) := by unfold Hid; simp
      clear hp0
      go_enter Try.func40, Try.ntmps40
      go_wp2_with (first | (go_at_call 31; refine c1.mono ?_; rintro e w1 ⟨A1, n1, k1, rfl, ho1, hb1⟩) | (go_at_call 62; refine (c2 _ hb1).mono ?_; rintro e w' ⟨rfl, rfl⟩))
      go_ret3
      exact ⟨hb1, .inl ⟨HC.out, A1, n1, k1, rfl, ho1⟩⟩

set_option maxHeartbeats 800000 in
theorem hamm_Fix2_err (r : Int) (A : Option Addr) (n c : Nat) (z : Int) (w : World) (hm : n ≤ maxLen) (hz : Hid (hammErr r n 1 = z)) (h0 : z ≠ 0) :
    Calls Try.prog 40 #[.int .i64 r, .slice A n c] w (Ret w (.tuple #[.slice none 0 0, .int .i64 0, .int .i64 z])) := by
  unfold maxLen at hm
  by_cases h1 : r < 2
  · have HB : Hid (z = 4) := by unfold Hid; rw [← hz.out, hammErr, if_pos (.inl h1)]
    go_enter Try.func40, Try.ntmps40
    go_wp2
    go_ret3
    exact ⟨by rw [HB.out]; rfl, rfl⟩
  · by_cases h2 : 4 < r
    · have HB : Hid (z = 4) := by unfold Hid; rw [← hz.out, hammErr, if_pos (.inr h2)]
      go_enter Try.func40, Try.ntmps40
      go_wp2
      go_ret3
      exact ⟨by rw [HB.out]; rfl, rfl⟩
    · obtain ⟨k, rfl⟩ := Int.eq_ofNat_of_zero_le (show 0 ≤ r by omega)
      have es := wrap_pow k (by omega)
      have hp : 2 ^ k ≤ 2 ^ 4 := Nat.pow_le_pow_right (by omega) (by omega)
      have d1 : decide ((k : Int) < 2) = false := decide_eq_false h1
      have d2 : decide ((4 : Int) < k) = false := decide_eq_false h2
      have hE : Hid (hammErr k n 1 = if (n : Int) ≠ ((2 ^ k : Nat) : Int) - 1 + 1 then 3 else 0) := by
        unfold Hid hammErr; rw [if_neg (by omega), Int.toNat_natCast]
      generalize 2 ^ k = t at *
      have h3 : (n : Int) ≠ (t : Int) := by
        intro h; apply h0; rw [← hz.out, hE.out, if_neg (by omega)]
      have HB : Hid (z = 3) := by unfold Hid; rw [← hz.out, hE.out, if_pos (by omega)]
      have e1 : ((n : Int) != (t : Int)) = true := by simp; omega
      clear h3 h0
      go_enter Try.func40, Try.ntmps40
      go_wp2
      go_ret3
      exact ⟨by rw [HB.out]; rfl, rfl⟩

set_option maxHeartbeats 800000 in
theorem HammFixesTwo_walk (r : Int) (A : Option Addr) (N c : Nat) (l : List Bool) (w : World) (_ : (Lit.int .i64 r).wf = true) (h : Reads w w.heap.size A N (vb l)) (hs : N * 1 ≤ reachBytes) (hc : N ≤ c) :
    Calls Try.prog 12 #[.int .i64 r, .slice A N c] w (LawTrue w) := by
  have hm : N ≤ maxLen := by unfold reachBytes at hs; unfold maxLen; omega
  have hm2 : N ≤ 9223372036854775807 := by unfold maxLen at hm; omega
  have H := h.bool_len
  have c2 := fun w b hb => law_hammCheck r N 1 b w (by omega) (by omega) hb
  by_cases h0 : hammErr r N 1 = 0
  · have c2 := fun w => c2 w 0 h0
    obtain ⟨k, rfl, hk2, hk4, hn⟩ := hammErr_ok h0
    have hpos : 0 < 2 ^ k := Nat.pow_pos (by omega)
    obtain ⟨n, hN⟩ : ∃ n, N = n + 1 := ⟨N - 1, by omega⟩
    have hn' : n + 1 = 2 ^ k := by omega
    have hNi : (N : Int) - 1 = (n : Int) := by omega
    obtain ⟨ad, e⟩ := h.addr (by omega)
    subst e
    obtain ⟨p, hp⟩ : ∃ p, ptrL (l.take n) = p := ⟨_, rfl⟩
    obtain ⟨o, ho⟩ : ∃ o, oddL l = o := ⟨_, rfl⟩
    have c1 := hamm_Fix2 k (some ad) n N c l p o w h hc hk2 hk4 hn' hN hp ho
    have c3 := fun (w1 : World) (hb1 : Below w.heap.size w w1) => law_fixed k (some ad) n c (l.take n) p w1 (((h.takeH (by omega)).below hb1).more hb1.size) hk4 hn' hp
    have c5 := fun (w1 : World) (hb : Below w.heap.size w w1) => ref_OddBits (some ad) N c l o w1 (h.below hb) (by have : 2 ^ k ≤ 2 ^ 4 := Nat.pow_le_pow_right (by omega) hk4; omega) ho
    have hn15 : n ≤ 15 := by have : 2 ^ k ≤ 2 ^ 4 := Nat.pow_le_pow_right (by omega) hk4; omega
    have hL : (l.take n).length = n := by rw [List.length_take]; omega
    have hpn : p ≤ 16 := by
      have := ptrL_lt (l := l.take n) (r := k) (by rw [hL]; omega)
      have h2 : 2 ^ k ≤ 2 ^ 4 := Nat.pow_le_pow_right (by omega) hk4
      rw [hp] at this; omega
    have hdl : (dataL (fixL (l.take n) p)).length ≤ 15 := by
      have := dataF_len (fun i => (fixL (l.take n) p).getD i false) (fixL (l.take n) p).length
      rw [fixL_len, hL] at this; unfold dataL; rw [fixL_len, hL]; omega
    have hcn : n ≤ c := by omega
    have hnN : n ≤ N := by omega
    clear hn hn' hp h0 H hN ho hL hpos
    generalize dataL (fixL (l.take n) p) = D at *
    by_cases hp0 : p = 0
    · have e1 : ((p : Int) != 0) = false := by simp; omega
      have hcond : (p != 0 && !o) = false := by rw [hp0]; rfl
      have c1' := c1.mono (R' := fun e w' => ∃ A' n' c', e = .returned (.tuple #[.slice A' n' c', .int .i64 p, .int .i64 0]) ∧ Own w' w.heap.size 4 (.slice A' n' c') (vb D) ∧ Below w.heap.size w w') (fun e w' h => by
        obtain ⟨hb, ⟨_, A', n', c', he, ho⟩ | ⟨hx, _⟩⟩ := h
        · exact ⟨A', n', c', he, ho, hb⟩
        · rw [hcond] at hx; cases hx)
      clear hp0 c1 hcond
      cases o
      all_goals
        go_enter Try.func12, Try.ntmps12
        go_wp2_with (first | (go_at_call 40; refine c1'.mono ?_; rintro e w1 ⟨A1, n1, k1, rfl, ho1, hb1⟩) | (go_at_call 24; refine (c2 _).mono ?_; rintro e w' ⟨rfl, rfl⟩) | (go_at_call 32; refine (c3 _ hb1).mono ?_; rintro e w2 ⟨A2, n2, k2, rfl, ho2, hb2⟩; have hb12 := hb1.trans (hb2.mono hb1.size); have c4 := ref_Bools A1 A2 n1 n2 k1 k2 _ _ true w2 (ho1.reads.below hb2) ho2.reads (by rw [← ho1.len, List.length_map]; unfold maxLen; omega) (by simp [Hid])) | (go_at_call 34; refine (c5 _ hb12).mono ?_; rintro e w' ⟨rfl, rfl⟩) | (go_at_call 22; refine c4.mono ?_; rintro e w3 ⟨rfl, m3, rfl⟩))
        go_ret
        exact ⟨rfl, below_drewN hb12 _⟩
    · have e1 : ((p : Int) != 0) = true := by simp; omega
      have hp1 : (p != 0) = true := by simpa using hp0
      cases o
      · have c1' := c1.mono (R' := fun e w' => e = .returned (.tuple #[.slice none 0 0, .int .i64 0, .int .i64 8]) ∧ Below w.heap.size w w') (fun e w' h => by
          obtain ⟨hb, ⟨hx, _⟩ | ⟨_, he⟩⟩ := h
          · rw [hp1] at hx; cases hx
          · exact ⟨he, hb⟩)
        clear hp0 c1 hp1
        go_enter Try.func12, Try.ntmps12
        go_wp2_with (first | (go_at_call 40; refine c1'.mono ?_; rintro e w1 ⟨rfl, hb1⟩) | (go_at_call 24; refine (c2 _).mono ?_; rintro e w' ⟨rfl, rfl⟩) | (go_at_call 32; refine (c3 _ hb1).mono ?_; rintro e w2 ⟨A2, n2, k2, rfl, ho2, hb2⟩; have hb12 := hb1.trans (hb2.mono hb1.size)) | (go_at_call 34; refine (c5 _ hb12).mono ?_; rintro e w' ⟨rfl, rfl⟩))
        go_ret
        exact ⟨rfl, hb12⟩
      · have c1' := c1.mono (R' := fun e w' => ∃ A' n' c', e = .returned (.tuple #[.slice A' n' c', .int .i64 p, .int .i64 0]) ∧ Own w' w.heap.size 4 (.slice A' n' c') (vb D) ∧ Below w.heap.size w w') (fun e w' h => by
          obtain ⟨hb, ⟨_, A', n', c', he, ho⟩ | ⟨hx, _⟩⟩ := h
          · exact ⟨A', n', c', he, ho, hb⟩
          · rw [Bool.not_true, Bool.and_false] at hx; cases hx)
        clear hp0 c1 hp1
        go_enter Try.func12, Try.ntmps12
        go_wp2_with (first | (go_at_call 40; refine c1'.mono ?_; rintro e w1 ⟨A1, n1, k1, rfl, ho1, hb1⟩) | (go_at_call 24; refine (c2 _).mono ?_; rintro e w' ⟨rfl, rfl⟩) | (go_at_call 32; refine (c3 _ hb1).mono ?_; rintro e w2 ⟨A2, n2, k2, rfl, ho2, hb2⟩; have hb12 := hb1.trans (hb2.mono hb1.size); have c4 := ref_Bools A1 A2 n1 n2 k1 k2 _ _ true w2 (ho1.reads.below hb2) ho2.reads (by rw [← ho1.len, List.length_map]; unfold maxLen; omega) (by simp [Hid])) | (go_at_call 34; refine (c5 _ hb12).mono ?_; rintro e w' ⟨rfl, rfl⟩) | (go_at_call 22; refine c4.mono ?_; rintro e w3 ⟨rfl, m3, rfl⟩))
        go_ret
        exact ⟨rfl, below_drewN hb12 _⟩
  · have c1 := hamm_Fix2_err r A N c (hammErr r N 1) w hm rfl h0
    have c2 := fun w => c2 w (hammErr r N 1) rfl
    have hz : (hammErr r N 1 != 0) = true := by simpa using h0
    clear h0 H
    generalize hammErr r N 1 = z at *
    go_enter Try.func12, Try.ntmps12
    go_wp2_with (first | (go_at_call 40; refine c1.mono ?_; rintro e w1 ⟨rfl, rfl⟩) | (go_at_call 24; refine (c2 _).mono ?_; rintro e w' ⟨rfl, rfl⟩))
    go_ret
    exact .same _
end Go.Proofs.Ytakpkllfoddalaa

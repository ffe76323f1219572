import Derived.Test.YtakpkllfoddalaaProg
import Derived.Test.YtakpkllfoddalaaOnes
import Derived.Test.YtakpkllfoddalaaStore
import Derived.Test.YtakpkllfoddalaaCloneBools
import Derived.Test.YtakpkllfoddalaaBools
set_option linter.unusedVariables false
namespace Go.Proofs.Ytakpkllfoddalaa
open Go.RowKit

theorem vb_one (l : List Bool) : ∀ u ∈ vb l, u.oneCell' = true := by
  intro u hu; obtain ⟨x, _, rfl⟩ := List.mem_map.1 hu; rfl

set_option maxHeartbeats 400000 in
theorem even_more (A : Option Addr) (n c : Nat) (l : List Bool) (b : Int) (w : World) {B : Nat} (h : Reads w B A n (vb l)) (hn : n ≤ 1000000) (hr : Hid (balL l = b)) :
    Calls Try.prog 56 #[.slice A n c] w (Ret w (.int .i64 b)) := by
  have H := Lib.hid h.bool_len
  go_enter Try.func56, Try.ntmps56
  go_wp2
  go_loop [3, 8] (fun s i => ∃ k : Nat, k ≤ n ∧ i = .int .i64 k ∧ s = .int .i64 (2 * (onesL (l.take k) : Int) - k)) (fun _ i => n - (intOf i).toNat)
  case atStart => exact ⟨0, by omega, rfl, by simp [onesL]⟩
  case round =>
    obtain ⟨k, hk, rfl, rfl⟩ := hrel
    have hbd := onesL_le (l.take k)
    have hbd2 : (l.take k).length ≤ k := List.length_take_le _ _
    by_cases hlt : k < n
    · obtain ⟨ad, x, rfl, hb, hx, hc⟩ := h.bool_at hlt
      have HX := Lib.hid (onesL_next hx)
      clear hx
      have hq : onesL (l.take k) ≤ k := by omega
      clear hbd hbd2
      generalize onesL (l.take k) = q at *
      cases x
      · go_wp2
        go_round
        case rel => exact ⟨k + 1, by omega, by go_num, by rw [HX.out]; simp; omega⟩
        case measure => simp [intOf]; omega
      · go_wp2
        go_round
        case rel => exact ⟨k + 1, by omega, by go_num, by rw [HX.out]; simp; omega⟩
        case measure => simp [intOf]; omega
    · obtain rfl : k = n := by omega
      have ht : 2 * (onesL (l.take k) : Int) - k = b := by rw [← hr.out, balL, List.take_of_length_le (Nat.le_of_eq H.out), H.out]
      rw [ht]
      clear ht hbd hbd2
      go_wp2
      go_ret
      exact ⟨rfl, rfl⟩

set_option maxHeartbeats 400000 in
theorem ref_ones (A : Option Addr) (n c : Nat) (l : List Bool) (b : Nat) (w : World) {B : Nat} (h : Reads w B A n (vb l)) (hn : n ≤ 1000000) (hr : Hid (onesL l = b)) :
    Calls Try.prog 58 #[.slice A n c] w (Ret w (.int .i64 (b : Int))) := by
  have H := Lib.hid h.bool_len
  go_enter Try.func58, Try.ntmps58
  go_wp2
  go_loop [3, 8] (fun s i => ∃ k : Nat, k ≤ n ∧ i = .int .i64 k ∧ s = .int .i64 (onesL (l.take k) : Int)) (fun _ i => n - (intOf i).toNat)
  case atStart => exact ⟨0, by omega, rfl, by simp [onesL]⟩
  case round =>
    obtain ⟨k, hk, rfl, rfl⟩ := hrel
    have hbd := onesL_le (l.take k)
    have hbd2 : (l.take k).length ≤ k := List.length_take_le _ _
    have hq : onesL (l.take k) ≤ k := by omega
    clear hbd hbd2
    by_cases hlt : k < n
    · obtain ⟨ad, x, rfl, hb, hx, hc⟩ := h.bool_at hlt
      have HX := Lib.hid (onesL_next hx)
      clear hx
      generalize onesL (l.take k) = q at *
      cases x
      · go_wp2
        go_round
        case rel => exact ⟨k + 1, by omega, by go_num, by rw [HX.out]; simp⟩
        case measure => simp [intOf]; omega
      · go_wp2
        go_round
        case rel => exact ⟨k + 1, by omega, by go_num, by rw [HX.out]; simp⟩
        case measure => simp [intOf]; omega
    · obtain rfl : k = n := by omega
      have ht : onesL (l.take k) = b := by rw [← hr.out, List.take_of_length_le (Nat.le_of_eq H.out)]
      rw [ht]
      clear ht hq
      go_wp2
      go_ret
      exact ⟨rfl, rfl⟩

set_option maxHeartbeats 800000 in
theorem even_turned (A : Option Addr) (n c : Nat) (l : List Bool) (k : Nat) (w : World) (h : Reads w w.heap.size A n (vb l)) (hn : n ≤ 1000000) (hk : k ≤ n) :
    Calls Try.prog 57 #[.slice A n c, .int .i64 (k : Int)] w (RetS w 4 (vb (turnL l k))) := by
  have H := Lib.hid h.bool_len
  have c1 := clone_bools A n c (vb l) w h (vb_one l) hn
  go_enter Try.func57, Try.ntmps57
  go_wp2_with (go_at_call 54; refine c1.mono ?_; rintro e w1 ⟨A1, n1, k1, rfl, ho1, hb1⟩)
  obtain rfl : n1 = n := by rw [← ho1.len, h.len]
  go_loopw [10] (fun i wi => ∃ j : Nat, j ≤ k ∧ i = .int .i64 j ∧ Own wi w.heap.size 4 (.slice A1 n1 k1) (vb (turnL l j)) ∧ Below w.heap.size w wi) (fun i _ => k - (intOf i).toNat)
  case atStart => exact ⟨0, by omega, rfl, by rw [turnL_zero]; exact ho1, hb1⟩
  case round =>
    obtain ⟨j, hj, rfl, hown, hb⟩ := hrel
    by_cases hlt : j < k
    · have hx : l[j]? = some (l[j]'(by rw [H.out]; omega)) := List.getElem?_eq_getElem _
      generalize l[j]'(by rw [H.out]; omega) = x at hx
      obtain ⟨ad, e⟩ := hown.reads.addr (by omega)
      subst e
      have hcx : wr.cell? (ad.add j) = some (.bool x) := hown.cell (by rw [List.getElem?_map, turnL_at hx]; rfl)
      have hfz := hown.frozenAt j
      have hset := hown.set j (.bool (!x))
      rw [vb_set, turnL_next hx] at hset
      have hbs := hb.trans (hown.setBelow (Nat.le_refl _) j (.bool (!x)))
      have i1 : (0 : Int) ≤ (j : Int) := by omega
      have i2 : (j : Int) < (n1 : Int) := by omega
      clear hx
      go_wp2
      go_roundw
      case rel => exact ⟨j + 1, by omega, by go_num, hset, hbs⟩
      case measure => simp only [intOf]; omega
    · obtain rfl : j = k := by omega
      go_wp2
      go_ret
      exact ⟨A1, n1, k1, rfl, hown, hb⟩

set_option maxHeartbeats 800000 in
theorem ref_turnedTo (A : Option Addr) (n c : Nat) (l : List Bool) (k : Nat) (w : World) (h : Reads w w.heap.size A n (vb l)) (hn : n ≤ 1000000) (hk : k ≤ n) :
    Calls Try.prog 59 #[.slice A n c, .int .i64 (k : Int)] w (RetS w 4 (vb (turnL l k))) := by
  have H := Lib.hid h.bool_len
  have ho : Own (w.alloc (.cells #[] 4)) w.heap.size 4 (.slice (some ⟨w.heap.size, 0, none⟩) 0 0) [] := Own.built w #[] 0 rfl (by unfold maxLen; omega) (Nat.le_refl _)
  have hr : Reads (w.alloc (.cells #[] 4)) w.heap.size A n (vb l) := h.alloc (Nat.le_refl _) _
  have hb0 : Below w.heap.size w (w.alloc (.cells #[] 4)) := (Below.refl _ _).alloc (Nat.le_refl _) _
  go_enter Try.func59, Try.ntmps59
  go_wp2_with (at_builtin; refine appN el_clone_bools rfl _ _ rfl rfl ho rfl hr (vb_one l) (by simp; unfold maxLen; omega) (by simp; omega) hb0.size ?_; intro v1 w1 ho1 hb1 _ _)
  obtain ⟨A1, k1, e1⟩ := ho1.form
  rw [List.nil_append, show (vb l).length = n from h.len] at e1
  subst e1
  rw [List.nil_append] at ho1
  go_loopw [6] (fun i wi => ∃ j : Nat, j ≤ k ∧ i = .int .i64 j ∧ Own wi w.heap.size 4 (.slice A1 n k1) (vb (turnL l j)) ∧ Below w.heap.size w wi) (fun i _ => k - (intOf i).toNat)
  case atStart => exact ⟨0, by omega, rfl, by rw [turnL_zero]; exact ho1, hb0.trans hb1⟩
  case round =>
    obtain ⟨j, hj, rfl, hown, hb⟩ := hrel
    by_cases hlt : j < k
    · have hx : l[j]? = some (l[j]'(by rw [H.out]; omega)) := List.getElem?_eq_getElem _
      generalize l[j]'(by rw [H.out]; omega) = x at hx
      obtain ⟨ad, e⟩ := hown.reads.addr (by omega)
      subst e
      have hcx : wr.cell? (ad.add j) = some (.bool x) := hown.cell (by rw [List.getElem?_map, turnL_at hx]; rfl)
      have hfz := hown.frozenAt j
      have hset := hown.set j (.bool (!x))
      rw [vb_set, turnL_next hx] at hset
      have hbs := hb.trans (hown.setBelow (Nat.le_refl _) j (.bool (!x)))
      have i1 : (0 : Int) ≤ (j : Int) := by omega
      have i2 : (j : Int) < (n : Int) := by omega
      clear hx
      go_wp2
      go_roundw
      case rel => exact ⟨j + 1, by omega, by go_num, hset, hbs⟩
      case measure => simp only [intOf]; omega
    · obtain rfl : j = k := by omega
      go_wp2
      go_ret
      exact ⟨A1, n, k1, rfl, hown, hb⟩

def evenErr (n : Nat) : Int := if 12 < n then 1 else if n % 2 = 1 then 3 else 0
set_option maxHeartbeats 400000 in
theorem law_evenCheck (A : Option Addr) (n c : Nat) (b : Int) (w : World) (hm : n ≤ maxLen) (hr : Hid (evenErr n = b)) :
    Calls Try.prog 29 #[.slice A n c] w (Ret w (.int .i64 b)) := by
  unfold maxLen at hm
  by_cases h1 : 12 < n
  · have HB : Hid (b = 1) := by unfold Hid; rw [← hr.out, evenErr, if_pos h1]
    go_enter Try.func29, Try.ntmps29
    go_wp2
    go_ret
    exact ⟨ret_i HB.out.symm, rfl⟩
  · by_cases h2 : n % 2 = 1
    · have HB : Hid (b = 3) := by unfold Hid; rw [← hr.out, evenErr, if_neg h1, if_pos h2]
      have e1 : ((n : Int) % 2 == 1) = true := by simp; omega
      go_enter Try.func29, Try.ntmps29
      go_wp2
      go_ret
      exact ⟨ret_i HB.out.symm, rfl⟩
    · have HB : Hid (b = 0) := by unfold Hid; rw [← hr.out, evenErr, if_neg h1, if_neg h2]
      have e1 : ((n : Int) % 2 == 1) = false := by simp; omega
      go_enter Try.func29, Try.ntmps29
      go_wp2
      go_ret
      exact ⟨ret_i HB.out.symm, rfl⟩

/-- returned a slice that the call made, a number, and no error -/
def RetSN (w : World) (E : TypeId) (xs : List Value) (k : Int) (e : Ending) (w' : World) : Prop :=
  ∃ A n c, e = .returned (.tuple #[.slice A n c, .int .i64 k, .int .i64 0]) ∧ Own w' w.heap.size E (.slice A n c) xs ∧ Below w.heap.size w w'
def RetEN (w : World) (z : Int) (e : Ending) (w' : World) : Prop := e = .returned (.tuple #[.slice none 0 0, .int .i64 0, .int .i64 z]) ∧ Below w.heap.size w w'

set_option maxHeartbeats 800000 in
theorem even_Turn (A : Option Addr) (n c : Nat) (l : List Bool) (K : Nat) (w : World) (h : Reads w w.heap.size A n (vb l)) (hn : Hid (evenErr n = 0)) (hK : K ≤ n) (h0 : Hid (balL (turnL l K) = 0)) (hmin : Hid (∀ j, j < K → balL (turnL l j) ≠ 0)) :
    Calls Try.prog 28 #[.slice A n c] w (RetSN w 4 (vb (turnL l K)) K) := by
  have hn12 : n ≤ 12 := by have := hn.out; unfold evenErr at this; split at this <;> omega
  have hn2 : ((n : Int) % 2 == 1) = false := by
    have := hn.out; unfold evenErr at this; rw [if_neg (by omega)] at this; split at this <;> simp <;> omega
  go_enter Try.func28, Try.ntmps28
  go_wp2
  go_loopw [5] (fun i wr => ∃ j : Nat, j ≤ K ∧ i = .int .i64 j ∧ Below w.heap.size w wr) (fun i _ => K - (intOf i).toNat)
  case atStart => exact ⟨0, by omega, rfl, Below.refl _ _⟩
  case round =>
    obtain ⟨j, hj, rfl, hb⟩ := hrel
    have c1 := even_turned A n c l j wr ((h.below hb).more hb.size) (by omega) (by omega)
    have c2 := fun (A' : Option Addr) (n' c' : Nat) (b : Int) (w' : World) (ho : Own w' wr.heap.size 4 (.slice A' n' c') (vb (turnL l j))) hb => even_more A' n' c' (turnL l j) b w' ho.reads (by have := ho.len; rw [List.length_map, turnL_len] at this; have := h.bool_len; omega) hb
    by_cases hlt : j < K
    · have hz := hmin.out j hlt
      have c3 := fun A' n' c' w' ho => c2 A' n' c' (balL (turnL l j)) w' ho rfl
      have hz' : (balL (turnL l j) != 0) = true := by simpa using hz
      clear c2 hz
      generalize balL (turnL l j) = q at *
      go_wp2_with (first | (go_at_call 57; refine c1.mono ?_; rintro e w1 ⟨A1, n1, k1, rfl, ho1, hb1⟩) | (go_at_call 56; refine (c3 _ _ _ _ ho1).mono ?_; rintro e w' ⟨rfl, rfl⟩))
      go_roundw
      case rel => exact ⟨j + 1, by omega, by go_num, hb.trans (hb1.mono hb.size)⟩
      case measure => simp only [intOf]; omega
    · obtain rfl : j = K := by omega
      have c3 := fun A' n' c' w' ho => c2 A' n' c' 0 w' ho h0
      have c4 := fun (w1 : World) (hb1 : Below wr.heap.size wr w1) => even_turned A n c l j w1 (((h.below hb).below (hb1.mono hb.size)).more (Nat.le_trans hb.size hb1.size)) (by omega) (by omega)
      clear c2
      go_wp2_with (first | (go_at_call 57; refine c1.mono ?_; rintro e w1 ⟨A1, n1, k1, rfl, ho1, hb1⟩) | (go_at_call 56; refine (c3 _ _ _ _ ho1).mono ?_; rintro e w' ⟨rfl, rfl⟩) | (go_at_call 57; refine (c4 _ hb1).mono ?_; rintro e w2 ⟨A2, n2, k2, rfl, ho2, hb2⟩))
      go_ret3
      exact ⟨A2, n2, k2, rfl, ho2.low (Nat.le_trans hb.size hb1.size), hb.trans ((hb1.mono hb.size).trans (hb2.mono (Nat.le_trans hb.size hb1.size)))⟩

set_option maxHeartbeats 400000 in
theorem even_Turn_err (A : Option Addr) (n c : Nat) (z : Int) (w : World) (hm : n ≤ maxLen) (hn : Hid (evenErr n = z)) (h0 : z ≠ 0) :
    Calls Try.prog 28 #[.slice A n c] w (RetEN w z) := by
  unfold maxLen at hm
  by_cases h1 : 12 < n
  · have HB : Hid (z = 1) := by unfold Hid; rw [← hn.out, evenErr, if_pos h1]
    go_enter Try.func28, Try.ntmps28
    go_wp2
    go_ret3
    exact ⟨by rw [HB.out]; rfl, Below.refl _ _⟩
  · have h2 : n % 2 = 1 := by
      have h3 := hn.out
      rw [evenErr, if_neg h1] at h3
      by_cases h : n % 2 = 1
      · exact h
      · rw [if_neg h] at h3; omega
    have HB : Hid (z = 3) := by unfold Hid; rw [← hn.out, evenErr, if_neg h1, if_pos h2]
    have e1 : ((n : Int) % 2 == 1) = true := by simp; omega
    clear h0
    go_enter Try.func28, Try.ntmps28
    go_wp2
    go_ret3
    exact ⟨by rw [HB.out]; rfl, Below.refl _ _⟩

/-- returned a slice that the call made, and a number -/
def RetSK (w : World) (E : TypeId) (xs : List Value) (k : Int) (e : Ending) (w' : World) : Prop :=
  ∃ A n c, e = .returned (.tuple #[.slice A n c, .int .i64 k]) ∧ Own w' w.heap.size E (.slice A n c) xs ∧ Below w.heap.size w w'
theorem bal_zero {l : List Bool} {k n q : Nat} (hl : l.length = n) (hq : onesL (turnL l k) = q) : (balL (turnL l k) = 0) ↔ ((2 * (q : Int) != (n : Int)) = false) := by
  unfold balL; rw [turnL_len, hl, hq]; simp; omega

set_option maxHeartbeats 800000 in
theorem ref_Evened (A : Option Addr) (n c : Nat) (l : List Bool) (K : Nat) (w : World) (h : Reads w w.heap.size A n (vb l)) (hn : n ≤ 1000) (hK : K ≤ n) (h0 : Hid (balL (turnL l K) = 0)) (hmin : Hid (∀ j, j < K → balL (turnL l j) ≠ 0)) :
    Calls Try.prog 30 #[.slice A n c] w (RetSK w 4 (vb (turnL l K)) K) := by
  go_enter Try.func30, Try.ntmps30
  go_wp2
  go_loopw [4] (fun i wr => ∃ j : Nat, j ≤ K ∧ i = .int .i64 j ∧ Below w.heap.size w wr) (fun i _ => K - (intOf i).toNat)
  case atStart => exact ⟨0, by omega, rfl, Below.refl _ _⟩
  case round =>
    obtain ⟨j, hj, rfl, hb⟩ := hrel
    have c1 := ref_turnedTo A n c l j wr ((h.below hb).more hb.size) (by omega) (by omega)
    have c2 := fun (A' : Option Addr) (n' c' : Nat) (b : Nat) (w' : World) (ho : Own w' wr.heap.size 4 (.slice A' n' c') (vb (turnL l j))) hb => ref_ones A' n' c' (turnL l j) b w' ho.reads (by have := ho.len; rw [List.length_map, turnL_len] at this; have := h.bool_len; omega) hb
    obtain ⟨q, hq⟩ : ∃ q, onesL (turnL l j) = q := ⟨_, rfl⟩
    have hz := bal_zero h.bool_len hq
    have hq2 : q ≤ 1000 := by have := onesL_le (turnL l j); rw [turnL_len, h.bool_len] at this; omega
    have c3 := fun A' n' c' w' ho => c2 A' n' c' q w' ho hq
    clear c2 hq
    by_cases hlt : j < K
    · have hz' : (2 * (q : Int) != (n : Int)) = true := by
        have := hmin.out j hlt
        rw [Ne, hz] at this
        simpa using this
      clear hz
      go_wp2_with (first | (go_at_call 59; refine c1.mono ?_; rintro e w1 ⟨A1, n1, k1, rfl, ho1, hb1⟩) | (go_at_call 58; refine (c3 _ _ _ _ ho1).mono ?_; rintro e w' ⟨rfl, rfl⟩))
      go_roundw
      case rel => exact ⟨j + 1, by omega, by go_num, hb.trans (hb1.mono hb.size)⟩
      case measure => simp only [intOf]; omega
    · obtain rfl : j = K := by omega
      have hz' := hz.1 h0.out
      have c4 := fun (w1 : World) (hb1 : Below wr.heap.size wr w1) => ref_turnedTo A n c l j w1 (((h.below hb).below (hb1.mono hb.size)).more (Nat.le_trans hb.size hb1.size)) (by omega) (by omega)
      clear hz
      go_wp2_with (first | (go_at_call 59; refine c1.mono ?_; rintro e w1 ⟨A1, n1, k1, rfl, ho1, hb1⟩) | (go_at_call 58; refine (c3 _ _ _ _ ho1).mono ?_; rintro e w' ⟨rfl, rfl⟩) | (go_at_call 59; refine (c4 _ hb1).mono ?_; rintro e w2 ⟨A2, n2, k2, rfl, ho2, hb2⟩))
      go_ret2
      exact ⟨A2, n2, k2, rfl, ho2.low (Nat.le_trans hb.size hb1.size), hb.trans ((hb1.mono hb.size).trans (hb2.mono (Nat.le_trans hb.size hb1.size)))⟩

theorem evenErr_ok {n : Nat} (h : evenErr n = 0) : n ≤ 12 ∧ n % 2 = 0 := by
  unfold evenErr at h
  split at h
  · omega
  · split at h
    · omega
    · omega

set_option maxHeartbeats 800000 in
theorem EvenTurns_walk (A : Option Addr) (n c : Nat) (l : List Bool) (w : World) (h : Reads w w.heap.size A n (vb l)) (hs : n * 1 ≤ reachBytes) :
    Calls Try.prog 7 #[.slice A n c] w (LawTrue w) := by
  have hm : n ≤ maxLen := by unfold reachBytes at hs; unfold maxLen; omega
  by_cases h0 : evenErr n = 0
  · obtain ⟨hn, hn2⟩ := evenErr_ok h0
    have H := h.bool_len
    obtain ⟨K, hK, hz, hmin⟩ := bal_exists l (by rw [H]; exact hn2)
    have c1 := even_Turn A n c l K w h h0 (by omega) hz hmin
    have c2 := fun w => law_evenCheck A n c 0 w hm h0
    have c3 := fun (w1 : World) (hb1 : Below w.heap.size w w1) => ref_Evened A n c l K w1 ((h.below hb1).more hb1.size) (by omega) (by omega) hz hmin
    clear h0 hz hmin hK H
    go_enter Try.func7, Try.ntmps7
    go_wp2_with (first | (go_at_call 28; refine c1.mono ?_; rintro e w1 ⟨A1, n1, k1, rfl, ho1, hb1⟩) | (go_at_call 29; refine (c2 _).mono ?_; rintro e w' ⟨rfl, rfl⟩) | (go_at_call 30; refine (c3 _ hb1).mono ?_; rintro e w2 ⟨A2, n2, k2, rfl, ho2, hb2⟩; have c4 := ref_Bools A1 A2 n1 n2 k1 k2 _ _ true w2 (ho1.reads.below hb2) ho2.reads (by have := ho1.len; rw [List.length_map, turnL_len, h.bool_len] at this; omega) (by simp [Hid])) | (go_at_call 22; refine c4.mono ?_; rintro e w3 ⟨rfl, m3, rfl⟩))
    go_ret
    exact ⟨rfl, below_drewN (hb1.trans (hb2.mono hb1.size)) _⟩
  · have c1 := even_Turn_err A n c (evenErr n) w hm rfl h0
    have c2 := fun w => law_evenCheck A n c (evenErr n) w hm rfl
    have hz : (evenErr n != 0) = true := by simpa using h0
    clear h0
    generalize evenErr n = z at *
    go_enter Try.func7, Try.ntmps7
    go_wp2_with (first | (go_at_call 28; refine c1.mono ?_; rintro e w1 ⟨rfl, hb1⟩) | (go_at_call 29; refine (c2 _).mono ?_; rintro e w' ⟨rfl, rfl⟩))
    go_ret
    exact ⟨rfl, hb1⟩
end Go.Proofs.Ytakpkllfoddalaa

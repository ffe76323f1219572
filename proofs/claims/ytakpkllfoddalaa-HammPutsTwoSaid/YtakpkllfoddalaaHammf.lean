import Derived.Test.YtakpkllfoddalaaHamm
import Derived.Test.YtakpkllfoddalaaOnes
set_option linter.unusedVariables false
namespace Go.Proofs.Ytakpkllfoddalaa
open Go.RowKit

theorem vb_oneH (l : List Bool) : ∀ u ∈ vb l, u.oneCell' = true := by
  intro u hu; obtain ⟨x, _, rfl⟩ := List.mem_map.1 hu; rfl
/-- what stands at the other places -/
def dataF (f : Nat → Bool) : Nat → List Bool
  | 0 => []
  | k + 1 => dataF f k ++ if isPow (k + 1) then [] else [f k]
def dataL (l : List Bool) : List Bool := dataF (fun i => l.getD i false) l.length
theorem dataF_len (f : Nat → Bool) (k : Nat) : (dataF f k).length ≤ k := by
  induction k with
  | zero => simp [dataF]
  | succ k ih => rw [dataF, List.length_append]; split <;> simp <;> omega

set_option maxHeartbeats 400000 in
theorem hamm_data (A : Option Addr) (n c : Nat) (l : List Bool) (w : World) (h : Reads w w.heap.size A n (vb l)) (hn : n ≤ 15) :
    Calls Try.prog 60 #[.slice A n c] w (RetS w 4 (vb (dataL l))) := by
  have H := Lib.hid h.bool_len
  have HD : Hid (dataL l = dataF (fun i => l.getD i false) n) := by unfold Hid; rw [dataL, H.out]
  go_enter Try.func60, Try.ntmps60
  go_wp2
  go_loopw [3, 8] (fun v i wr => ∃ k : Nat, k ≤ n ∧ i = .int .i64 k ∧ Own wr w.heap.size 4 v (vb (dataF (fun i => l.getD i false) k)) ∧ Below w.heap.size w wr) (fun _ i _ => n - (intOf i).toNat)
  case atStart => exact ⟨0, by omega, rfl, Own.nil _ _ _, Below.refl _ _⟩
  case round =>
    obtain ⟨k, hk, rfl, hown, hb⟩ := hrel
    have hB := hb.size
    have hl : (vb (dataF (fun i => l.getD i false) k)).length ≤ 15 := by
      rw [List.length_map]; have := dataF_len (fun i => l.getD i false) k; omega
    by_cases hlt : k < n
    · obtain ⟨ad, x, e, hbb, hx, hcx⟩ := (h.below hb).bool_at hlt
      subst e
      have HN : Hid (dataF (fun i => l.getD i false) (k + 1) = dataF (fun i => l.getD i false) k ++ if isPow (k + 1) then [] else [x]) := by
        unfold Hid; rw [dataF]; simp only [List.getD, hx, Option.getD_some]
      have cp := fun w => hamm_power (k + 1) w (by omega) (by omega)
      have e1 : ((k + 1 : Nat) : Int) = (k : Int) + 1 := by omega
      rw [e1] at cp
      clear hx e1
      cases hp : isPow (k + 1)
      · rw [hp] at HN cp
        go_wp2_with (first | (go_at_call 50; refine (cp _).mono ?_; rintro e w' ⟨rfl, rfl⟩) | (at_builtin; refine app1 el_clone_bools rfl _ _ rfl rfl hown _ _ rfl rfl (by unfold maxLen; omega) (by omega) hB ?_; intro v1 w1 ho1 hb1 _ _))
        go_roundw
        case rel => exact ⟨k + 1, by omega, by go_num, by rw [HN.out]; simpa [vb] using ho1, hb.trans hb1⟩
        case measure => simp only [intOf]; omega
      · rw [hp] at HN cp
        go_wp2_with (go_at_call 50; refine (cp _).mono ?_; rintro e w' ⟨rfl, rfl⟩)
        go_roundw
        case rel => exact ⟨k + 1, by omega, by go_num, by rw [HN.out]; simpa using hown, hb⟩
        case measure => simp only [intOf]; omega
    · obtain rfl : k = n := by omega
      obtain ⟨A2, c2, e⟩ := hown.form
      generalize hn2 : (vb (dataF (fun i => l.getD i false) k)).length = n2 at e hl
      subst e
      clear hn2
      go_wp2
      go_ret
      exact ⟨A2, n2, c2, rfl, by rw [HD.out]; exact hown, hb⟩
set_option maxHeartbeats 400000 in
theorem ref_Data (A : Option Addr) (n c : Nat) (l : List Bool) (w : World) (h : Reads w w.heap.size A n (vb l)) (hn : n ≤ 15) :
    Calls Try.prog 61 #[.slice A n c] w (RetS w 4 (vb (dataL l))) := by
  have H := Lib.hid h.bool_len
  have HD : Hid (dataL l = dataF (fun i => l.getD i false) n) := by unfold Hid; rw [dataL, H.out]
  go_enter Try.func61, Try.ntmps61
  go_wp2
  go_loopw [3, 4] (fun v i wr => ∃ k : Nat, k ≤ n ∧ i = .int .i64 k ∧ Own wr w.heap.size 4 v (vb (dataF (fun i => l.getD i false) k)) ∧ Below w.heap.size w wr) (fun _ i _ => n - (intOf i).toNat)
  case atStart => exact ⟨0, by omega, rfl, Own.nil _ _ _, Below.refl _ _⟩
  case round =>
    obtain ⟨k, hk, rfl, hown, hb⟩ := hrel
    have hB := hb.size
    have hl : (vb (dataF (fun i => l.getD i false) k)).length ≤ 15 := by
      rw [List.length_map]; have := dataF_len (fun i => l.getD i false) k; omega
    by_cases hlt : k < n
    · obtain ⟨ad, x, e, hbb, hx, hcx⟩ := (h.below hb).bool_at hlt
      subst e
      have HN : Hid (dataF (fun i => l.getD i false) (k + 1) = dataF (fun i => l.getD i false) k ++ if isPow (k + 1) then [] else [x]) := by
        unfold Hid; rw [dataF]; simp only [List.getD, hx, Option.getD_some]
      have cp := fun w => ref_Power (k + 1) w (by omega) (by omega)
      have e1 : ((k + 1 : Nat) : Int) = (k : Int) + 1 := by omega
      rw [e1] at cp
      clear hx e1
      cases hp : isPow (k + 1)
      · rw [hp] at HN cp
        go_wp2_with (first | (go_at_call 52; refine (cp _).mono ?_; rintro e w' ⟨rfl, rfl⟩) | (at_builtin; refine app1 el_clone_bools rfl _ _ rfl rfl hown _ _ rfl rfl (by unfold maxLen; omega) (by omega) hB ?_; intro v1 w1 ho1 hb1 _ _))
        go_roundw
        case rel => exact ⟨k + 1, by omega, by go_num, by rw [HN.out]; simpa [vb] using ho1, hb.trans hb1⟩
        case measure => simp only [intOf]; omega
      · rw [hp] at HN cp
        go_wp2_with (go_at_call 52; refine (cp _).mono ?_; rintro e w' ⟨rfl, rfl⟩)
        go_roundw
        case rel => exact ⟨k + 1, by omega, by go_num, by rw [HN.out]; simpa using hown, hb⟩
        case measure => simp only [intOf]; omega
    · obtain rfl : k = n := by omega
      obtain ⟨A2, c2, e⟩ := hown.form
      generalize hn2 : (vb (dataF (fun i => l.getD i false) k)).length = n2 at e hl
      subst e
      clear hn2
      go_wp2
      go_ret
      exact ⟨A2, n2, c2, rfl, by rw [HD.out]; exact hown, hb⟩

/-- the place p turned -/
def fixL (l : List Bool) (p : Nat) : List Bool := if p = 0 then l else l.set (p - 1) (!(l.getD (p - 1) false))
theorem fixL_len (l : List Bool) (p : Nat) : (fixL l p).length = l.length := by unfold fixL; split <;> simp
theorem ptrL_lt {l : List Bool} {r : Nat} (h : l.length < 2 ^ r) : ptrL l < 2 ^ r := ptrF_lt h

set_option maxHeartbeats 800000 in
theorem hamm_Fix (r : Nat) (A : Option Addr) (n c : Nat) (l : List Bool) (p : Nat) (w : World) (h : Reads w w.heap.size A n (vb l)) (hr2 : 2 ≤ r) (hr4 : r ≤ 4) (hn : n + 1 = 2 ^ r) (hp : Hid (ptrL l = p)) :
    Calls Try.prog 31 #[.int .i64 (r : Int), .slice A n c] w (fun e w' => ∃ A' n' c', e = .returned (.tuple #[.slice A' n' c', .int .i64 p, .int .i64 0]) ∧ Own w' w.heap.size 4 (.slice A' n' c') (vb (dataL (fixL l p))) ∧ Below w.heap.size w w') := by
  have H := Lib.hid h.bool_len
  have hn15 : n ≤ 15 := by have : 2 ^ r ≤ 2 ^ 4 := Nat.pow_le_pow_right (by omega) hr4; omega
  have hpn : p ≤ n := by
    have := ptrL_lt (l := l) (r := r) (by rw [H.out]; omega)
    rw [hp.out] at this; omega
  have c1 := fun w' (hq : Reads w' w'.heap.size A n (vb l)) => hamm_pointer A n c l p w' hq hn15 hp
  have c2 := clone_bools A n c (vb l) w h (vb_oneH l) (by omega)
  have es : wrap64 ((2 : Int) ^ r) = (n : Int) + 1 := by rw [wrap_pow r (by omega), ← hn]; omega
  have HN := Lib.hid hn
  clear hn
  have c3 := fun (A' : Option Addr) (n' c' : Nat) (w' : World) (ho : Own w' w.heap.size 4 (.slice A' n' c') (vb (fixL l p))) => hamm_data A' n' c' (fixL l p) w' ho.reads (by have := ho.len; rw [List.length_map, fixL_len, H.out] at this; omega)
  by_cases hp0 : p = 0
  · have hd : decide ((p : Int) > 0) = false := decide_eq_false (by omega)
    have HF : Hid (fixL l p = l) := by unfold Hid fixL; rw [if_pos hp0]
    have hp00 : p ≤ 0 := by omega
    clear hp0 hd
    go_enter Try.func31, Try.ntmps31
    go_wp2_with (first | (go_at_call 51; refine (c1 _ h).mono ?_; rintro e w' ⟨rfl, rfl⟩) | (go_at_call 54; refine c2.mono ?_; rintro e w1 ⟨A1, n1, k1, rfl, ho1, hb1⟩; have ho2 : Own w1 w.heap.size 4 (.slice A1 n1 k1) (vb (fixL l p)) := (by rw [HF.out]; exact ho1)) | (go_at_call 60; refine (c3 _ _ _ _ ho2).mono ?_; rintro e w2 ⟨A2, n2, k2, rfl, ho3, hb2⟩))
    go_ret3
    exact ⟨A2, n2, k2, rfl, ho3.low hb1.size, hb1.trans (hb2.mono hb1.size)⟩
  · obtain ⟨q, hq⟩ : ∃ q, p = q + 1 := ⟨p - 1, by omega⟩
    have hqi : (p : Int) - 1 = (q : Int) := by omega
    have hqn : q < n := by omega
    have hx : l[q]? = some (l[q]'(by rw [H.out]; exact hqn)) := List.getElem?_eq_getElem _
    generalize l[q]'(by rw [H.out]; exact hqn) = x at hx
    have HX := Lib.hid hx
    have HF : Hid (fixL l p = l.set q (!x)) := by
      unfold Hid fixL; rw [if_neg hp0, hq, Nat.add_sub_cancel]; simp only [List.getD, hx, Option.getD_some]
    have hp00 : 0 < p := by omega
    clear hp0 hq hx
    go_enter Try.func31, Try.ntmps31
    go_wp2_with (first | (go_at_call 51; refine (c1 _ h).mono ?_; rintro e w' ⟨rfl, rfl⟩) | (go_at_call 54; refine c2.mono ?_; rintro e w1 ⟨A1, n1, k1, rfl, ho1, hb1⟩; have hn1 : q < n1 := (by rw [← ho1.len, List.length_map, H.out]; exact hqn); obtain ⟨ad, e1⟩ := ho1.reads.addr (by omega); subst e1; have hcell : w1.cell? (ad.add q) = some (.bool x) := ho1.cell (by rw [List.getElem?_map, HX.out]; rfl); have hfz := ho1.frozenAt q; have ho2 := ho1.set q (.bool (!x)); have hb2 := hb1.trans (ho1.setBelow (Nat.le_refl _) q (.bool (!x))); have i1 : (0 : Int) ≤ (q : Int) := (by omega); have i2 : (q : Int) < (n1 : Int) := (by omega)) | (go_at_call 60; refine (c3 _ _ _ _ (by rw [HF.out, ← vb_set]; exact ho2)).mono ?_; rintro e w3 ⟨A2, n2, k2, rfl, ho3, hb3⟩))
    go_ret3
    exact ⟨A2, n2, k2, rfl, ho3.low hb2.size, hb2.trans (hb3.mono hb2.size)⟩

set_option maxHeartbeats 800000 in
theorem law_fixed (r : Nat) (A : Option Addr) (n c : Nat) (l : List Bool) (p : Nat) (w : World) (h : Reads w w.heap.size A n (vb l)) (hr4 : r ≤ 4) (hn : n + 1 = 2 ^ r) (hp : Hid (ptrL l = p)) :
    Calls Try.prog 32 #[.int .i64 (r : Int), .slice A n c] w (fun e w' => ∃ A' n' c', e = .returned (.tuple #[.slice A' n' c', .int .i64 p]) ∧ Own w' w.heap.size 4 (.slice A' n' c') (vb (dataL (fixL l p))) ∧ Below w.heap.size w w') := by
  have H := Lib.hid h.bool_len
  have hn15 : n ≤ 15 := by have : 2 ^ r ≤ 2 ^ 4 := Nat.pow_le_pow_right (by omega) hr4; omega
  have hpn : p ≤ n := by
    have := ptrL_lt (l := l) (r := r) (by rw [H.out]; omega)
    rw [hp.out] at this; omega
  have c1 := fun w' (hq : Reads w' w'.heap.size A n (vb l)) => ref_Pointer r A n c l p w' hq hn15 hr4 (by omega) hp
  have ho : Own (w.alloc (.cells #[] 4)) w.heap.size 4 (.slice (some ⟨w.heap.size, 0, none⟩) 0 0) [] := Own.built w #[] 0 rfl (by unfold maxLen; omega) (Nat.le_refl _)
  have hr : Reads (w.alloc (.cells #[] 4)) w.heap.size A n (vb l) := h.alloc (Nat.le_refl _) _
  have hb0 : Below w.heap.size w (w.alloc (.cells #[] 4)) := (Below.refl _ _).alloc (Nat.le_refl _) _
  have hlv : (vb l).length = n := h.len
  have HLV := Lib.hid hlv
  clear hn hlv
  have c3 := fun (A' : Option Addr) (n' c' : Nat) (w' : World) (ho : Own w' w.heap.size 4 (.slice A' n' c') (vb (fixL l p))) => ref_Data A' n' c' (fixL l p) w' ho.reads (by have := ho.len; rw [List.length_map, fixL_len, H.out] at this; omega)
  by_cases hp0 : p = 0
  · have HF : Hid (fixL l p = l) := by unfold Hid fixL; rw [if_pos hp0]
    have hp00 : p ≤ 0 := by omega
    clear hp0
    go_enter Try.func32, Try.ntmps32
    go_wp2_with (first | (go_at_call 53; refine (c1 _ h).mono ?_; rintro e w' ⟨rfl, rfl⟩) | (at_builtin; refine appN el_clone_bools rfl _ _ rfl rfl ho rfl hr (vb_oneH l) (by simp; unfold maxLen; omega) (by simp; omega) hb0.size ?_; intro v1 w1 ho1 hb1 _ _; rw [List.nil_append] at ho1; obtain ⟨A1, k1, e1⟩ := ho1.form; rw [HLV.out] at e1; subst e1; have ho2 : Own w1 w.heap.size 4 (.slice A1 n k1) (vb (fixL l p)) := (by rw [HF.out]; exact ho1)) | (go_at_call 61; refine (c3 _ _ _ _ ho2).mono ?_; rintro e w2 ⟨A2, n2, k2, rfl, ho3, hb2⟩))
    go_ret2
    have hb1' := hb0.trans hb1
    exact ⟨A2, n2, k2, rfl, ho3.low hb1'.size, hb1'.trans (hb2.mono hb1'.size)⟩
  · obtain ⟨q, hq⟩ : ∃ q, p = q + 1 := ⟨p - 1, by omega⟩
    have hqi : (p : Int) - 1 = (q : Int) := by omega
    have hqn : q < n := by omega
    have hx : l[q]? = some (l[q]'(by rw [H.out]; exact hqn)) := List.getElem?_eq_getElem _
    generalize l[q]'(by rw [H.out]; exact hqn) = x at hx
    have HX := Lib.hid hx
    have HF : Hid (fixL l p = l.set q (!x)) := by
      unfold Hid fixL; rw [if_neg hp0, hq, Nat.add_sub_cancel]; simp only [List.getD, hx, Option.getD_some]
    have hp00 : 0 < p := by omega
    clear hp0 hq hx
    go_enter Try.func32, Try.ntmps32
    go_wp2_with (first | (go_at_call 53; refine (c1 _ h).mono ?_; rintro e w' ⟨rfl, rfl⟩) | (at_builtin; refine appN el_clone_bools rfl _ _ rfl rfl ho rfl hr (vb_oneH l) (by simp; unfold maxLen; omega) (by simp; omega) hb0.size ?_; intro v1 w1 ho1 hb1' _ _; rw [List.nil_append] at ho1; obtain ⟨A1, k1, e1⟩ := ho1.form; rw [HLV.out] at e1; subst e1; have hb1 := hb0.trans hb1'; obtain ⟨ad, e1⟩ := ho1.reads.addr (by omega); subst e1; have hcell : w1.cell? (ad.add q) = some (.bool x) := ho1.cell (by rw [List.getElem?_map, HX.out]; rfl); have hfz := ho1.frozenAt q; have ho2 := ho1.set q (.bool (!x)); have hb2 := hb1.trans (ho1.setBelow (Nat.le_refl _) q (.bool (!x))); have i1 : (0 : Int) ≤ (q : Int) := (by omega); have i2 : (q : Int) < (n : Int) := (by omega)) | (go_at_call 61; refine (c3 _ _ _ _ (by rw [HF.out, ← vb_set]; exact ho2)).mono ?_; rintro e w3 ⟨A2, n2, k2, rfl, ho3, hb3⟩))
    go_ret2
    exact ⟨A2, n2, k2, rfl, ho3.low hb2.size, hb2.trans (hb3.mono hb2.size)⟩

/-! ### what is wrong -/
def hammErr (r : Int) (have_ more : Int) : Int := if r < 2 ∨ 4 < r then 4 else if have_ ≠ (2 ^ r.toNat : Nat) - 1 + more then 3 else 0
theorem hammErr_ok {r a m : Int} (h : hammErr r a m = 0) : ∃ r' : Nat, r = r' ∧ 2 ≤ r' ∧ r' ≤ 4 ∧ a = ((2 ^ r' : Nat) : Int) - 1 + m := by
  unfold hammErr at h
  split at h
  · omega
  · split at h
    · omega
    · rename_i h1 h2
      exact ⟨r.toNat, by omega, by omega, by omega, by omega⟩

set_option maxHeartbeats 800000 in
theorem law_hammCheck (r a m b : Int) (w : World) (ha : 0 ≤ a ∧ a ≤ 9223372036854775807) (hm : -4 ≤ m ∧ m ≤ 1 ∨ r < 2 ∨ 4 < r) (hb : Hid (hammErr r a m = b)) :
    Calls Try.prog 24 #[.int .i64 r, .int .i64 a, .int .i64 m] w (Ret w (.int .i64 b)) := by
  by_cases h1 : r < 2
  · have HB : Hid (b = 4) := by unfold Hid; rw [← hb.out, hammErr, if_pos (.inl h1)]
    go_enter Try.func24, Try.ntmps24
    go_wp2
    go_ret
    exact ⟨ret_i HB.out.symm, rfl⟩
  · by_cases h2 : 4 < r
    · have HB : Hid (b = 4) := by unfold Hid; rw [← hb.out, hammErr, if_pos (.inr h2)]
      go_enter Try.func24, Try.ntmps24
      go_wp2
      go_ret
      exact ⟨ret_i HB.out.symm, rfl⟩
    · obtain ⟨k, rfl⟩ := Int.eq_ofNat_of_zero_le (show 0 ≤ r by omega)
      have es := wrap_pow k (by omega)
      have hp : 2 ^ k ≤ 2 ^ 4 := Nat.pow_le_pow_right (by omega) (by omega)
      have hm' : -4 ≤ m ∧ m ≤ 1 := by omega
      have d1 : decide ((k : Int) < 2) = false := decide_eq_false h1
      have d2 : decide ((4 : Int) < k) = false := decide_eq_false h2
      have hE : Hid (hammErr k a m = if a ≠ ((2 ^ k : Nat) : Int) - 1 + m then 3 else 0) := by
        unfold Hid hammErr; rw [if_neg (by omega), Int.toNat_natCast]
      obtain ⟨hm1, hm2⟩ := hm'
      obtain ⟨ha1, ha2⟩ := ha
      clear hm
      generalize 2 ^ k = t at *
      by_cases h3 : a = (t : Int) - 1 + m
      · have HB : Hid (b = 0) := by unfold Hid; rw [← hb.out, hE.out, if_neg (by omega)]
        have e1 : (a != (t : Int) - 1 + m) = false := by simp; exact h3
        clear h3
        go_enter Try.func24, Try.ntmps24
        go_wp2
        go_ret
        exact ⟨ret_i HB.out.symm, rfl⟩
      · have HB : Hid (b = 3) := by unfold Hid; rw [← hb.out, hE.out, if_pos h3]
        have e1 : (a != (t : Int) - 1 + m) = true := by simp; exact h3
        clear h3
        go_enter Try.func24, Try.ntmps24
        go_wp2
        go_ret
        exact ⟨ret_i HB.out.symm, rfl⟩

set_option maxHeartbeats 800000 in
theorem hamm_Fix_err (r : Int) (A : Option Addr) (n c : Nat) (z : Int) (w : World) (hm : n ≤ maxLen) (hz : Hid (hammErr r n 0 = z)) (h0 : z ≠ 0) :
    Calls Try.prog 31 #[.int .i64 r, .slice A n c] w (Ret w (.tuple #[.slice none 0 0, .int .i64 0, .int .i64 z])) := by
  unfold maxLen at hm
  by_cases h1 : r < 2
  · have HB : Hid (z = 4) := by unfold Hid; rw [← hz.out, hammErr, if_pos (.inl h1)]
    go_enter Try.func31, Try.ntmps31
    go_wp2
    go_ret3
    exact ⟨by rw [HB.out]; rfl, rfl⟩
  · by_cases h2 : 4 < r
    · have HB : Hid (z = 4) := by unfold Hid; rw [← hz.out, hammErr, if_pos (.inr h2)]
      go_enter Try.func31, Try.ntmps31
      go_wp2
      go_ret3
      exact ⟨by rw [HB.out]; rfl, rfl⟩
    · obtain ⟨k, rfl⟩ := Int.eq_ofNat_of_zero_le (show 0 ≤ r by omega)
      have es := wrap_pow k (by omega)
      have hp : 2 ^ k ≤ 2 ^ 4 := Nat.pow_le_pow_right (by omega) (by omega)
      have d1 : decide ((k : Int) < 2) = false := decide_eq_false h1
      have d2 : decide ((4 : Int) < k) = false := decide_eq_false h2
      have hE : Hid (hammErr k n 0 = if (n : Int) ≠ ((2 ^ k : Nat) : Int) - 1 + 0 then 3 else 0) := by
        unfold Hid hammErr; rw [if_neg (by omega), Int.toNat_natCast]
      generalize 2 ^ k = t at *
      have h3 : (n : Int) ≠ (t : Int) - 1 := by
        intro h; apply h0; rw [← hz.out, hE.out, if_neg (by omega)]
      have HB : Hid (z = 3) := by unfold Hid; rw [← hz.out, hE.out, if_pos (by omega)]
      have e1 : ((n : Int) != (t : Int) - 1) = true := by simp; exact h3
      clear h3 h0
      go_enter Try.func31, Try.ntmps31
      go_wp2
      go_ret3
      exact ⟨by rw [HB.out]; rfl, rfl⟩

set_option maxHeartbeats 800000 in
theorem HammFixes_walk (r : Int) (A : Option Addr) (n c : Nat) (l : List Bool) (w : World) (_ : (Lit.int .i64 r).wf = true) (h : Reads w w.heap.size A n (vb l)) (hs : n * 1 ≤ reachBytes) :
    Calls Try.prog 8 #[.int .i64 r, .slice A n c] w (LawTrue w) := by
  have hm : n ≤ maxLen := by unfold reachBytes at hs; unfold maxLen; omega
  have hm2 : n ≤ 9223372036854775807 := by unfold maxLen at hm; omega
  have H := h.bool_len
  have c2 := fun w b hb => law_hammCheck r n 0 b w (by omega) (by omega) hb
  by_cases h0 : hammErr r n 0 = 0
  · have c2 := fun w => c2 w 0 h0
    obtain ⟨k, rfl, hk2, hk4, hn⟩ := hammErr_ok h0
    have hn' : n + 1 = 2 ^ k := by omega
    obtain ⟨p, hp⟩ : ∃ p, ptrL l = p := ⟨_, rfl⟩
    have c1 := hamm_Fix k A n c l p w h hk2 hk4 hn' hp
    have c3 := fun (w1 : World) (hb1 : Below w.heap.size w w1) => law_fixed k A n c l p w1 ((h.below hb1).more hb1.size) hk4 hn' hp
    have hn15 : n ≤ 15 := by have : 2 ^ k ≤ 2 ^ 4 := Nat.pow_le_pow_right (by omega) hk4; omega
    have hdl : (dataL (fixL l p)).length ≤ 15 := by
      have := dataF_len (fun i => (fixL l p).getD i false) (fixL l p).length
      rw [fixL_len, H] at this; unfold dataL; rw [fixL_len, H]; omega
    clear hn hn' hp h0 H
    generalize dataL (fixL l p) = D at *
    go_enter Try.func8, Try.ntmps8
    go_wp2_with (first | (go_at_call 31; refine c1.mono ?_; rintro e w1 ⟨A1, n1, k1, rfl, ho1, hb1⟩) | (go_at_call 24; refine (c2 _).mono ?_; rintro e w' ⟨rfl, rfl⟩) | (go_at_call 32; refine (c3 _ hb1).mono ?_; rintro e w2 ⟨A2, n2, k2, rfl, ho2, hb2⟩; have c4 := ref_Bools A1 A2 n1 n2 k1 k2 _ _ true w2 (ho1.reads.below hb2) ho2.reads (by rw [← ho1.len, List.length_map]; unfold maxLen; omega) (by simp [Hid])) | (go_at_call 22; refine c4.mono ?_; rintro e w3 ⟨rfl, m3, rfl⟩))
    go_ret
    exact ⟨rfl, below_drewN (hb1.trans (hb2.mono hb1.size)) _⟩
  · have c1 := hamm_Fix_err r A n c (hammErr r n 0) w hm rfl h0
    have c2 := fun w => c2 w (hammErr r n 0) rfl
    have hz : (hammErr r n 0 != 0) = true := by simpa using h0
    clear h0 H
    generalize hammErr r n 0 = z at *
    go_enter Try.func8, Try.ntmps8
    go_wp2_with (first | (go_at_call 31; refine c1.mono ?_; rintro e w1 ⟨rfl, rfl⟩) | (go_at_call 24; refine (c2 _).mono ?_; rintro e w' ⟨rfl, rfl⟩))
    go_ret
    exact .same _
end Go.Proofs.Ytakpkllfoddalaa

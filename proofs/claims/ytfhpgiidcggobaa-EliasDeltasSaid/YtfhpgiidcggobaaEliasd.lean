import Derived.Test.YtfhpgiidcggobaaEliasr
set_option linter.unusedVariables false
namespace Go.Proofs.Ytfhpgiidcggobaa
open Go.RowKit

theorem el_boolsE : Elem Try.prog 24 4 (.bool false) 1 := Elem.mk' Try.underlying24 (by kernel_rfl) rfl
theorem one_vbE (l : List Bool) : ∀ u ∈ vb l, u.oneCell' = true := by
  intro u hu
  obtain ⟨b, _, rfl⟩ := List.mem_map.1 hu
  rfl
set_option maxHeartbeats 400000 in
set_option maxRecDepth 100000 in
theorem bits_Len64_20 (w : World) : Calls Try.prog 70 #[.int .u64 1048576] w (Ret w (.int .i64 21)) := by
  have e8 : Lib.len8 16 = 5 := rfl
  go_enter Try.func70, Try.ntmps70
  simp only [List.append_eq, List.cons_append, List.nil_append, Lib.fold_len8tab]
  go_wp2
  go_ret
  exact ⟨rfl, rfl⟩
set_option maxHeartbeats 400000 in
theorem bits_Len_20 (w : World) : Calls Try.prog 53 #[.int .u64 1048576] w (Ret w (.int .i64 21)) := by
  have c1 := bits_Len64_20 w
  go_enter Try.func53, Try.ntmps53
  go_wp2_with (go_at_call 70; refine c1.mono ?_; rintro e w' ⟨rfl, rfl⟩)
  go_ret
  exact ⟨rfl, rfl⟩
/-- the digits behind the length, a 1 ahead of them -/
def delL (l : List Bool) (u m : Nat) : List Bool := true :: subL l u m
def delN (l : List Bool) (u m : Nat) : Nat := numF (delL l u m) (m + 1)
/-- what a delta at the beginning tells -/
def delR (l : List Bool) (n : Nat) : Nat × Nat :=
  if 2 * zN l + 1 ≤ n ∧ zN l ≤ 4 ∧ gamN l ≤ 21 then (if 2 * zN l + 1 + (gamN l - 1) ≤ n ∧ delN l (2 * zN l + 1) (gamN l - 1) ≤ 1048576 then (delN l (2 * zN l + 1) (gamN l - 1), 2 * zN l + 1 + (gamN l - 1)) else (0, 0)) else (0, 0)
theorem rdR_21 {l : List Bool} {n : Nat} (hn : l.length = n) : rdR l n 21 = if 2 * zN l + 1 ≤ n ∧ zN l ≤ 4 ∧ gamN l ≤ 21 then (gamN l, 2 * zN l + 1) else (0, 0) := by
  unfold rdR
  by_cases h1 : 2 * zN l + 1 ≤ n
  · by_cases h2 : zN l ≤ 4
    · by_cases h3 : gamN l ≤ 21
      · rw [if_pos ⟨h1, by omega, h3⟩, if_pos ⟨h1, h2, h3⟩]
      · rw [if_neg (by omega), if_neg (by omega)]
    · have hg := gamN_ge (l := l) (by omega)
      have : 2 ^ 5 ≤ 2 ^ zN l := Nat.pow_le_pow_right (by omega) (by omega)
      rw [if_neg (by omega), if_neg (by omega)]
  · rw [if_neg (by omega), if_neg (by omega)]
theorem delR_zero {l : List Bool} {n a : Nat} (h : delR l n = (a, 0)) : a = 0 := by
  unfold delR at h
  split at h
  · split at h
    · simp at h
    · simp at h; omega
  · simp at h; omega
/-- [true] with a part of l behind it, whatever the part's address -/
theorem Reads.zero {w : World} {B : Nat} {A : Option Addr} : Reads w B A 0 [] := ⟨rfl, fun h => absurd h (by omega)⟩
theorem delL_vb (l : List Bool) (u m : Nat) : [Value.bool true] ++ vb (subL l u m) = vb (delL l u m) := rfl
theorem delL_len {l : List Bool} {u m n : Nat} (hl : l.length = n) (h : u + m ≤ n) : (delL l u m).length = m + 1 := by
  unfold delL; rw [List.length_cons, subL_len l u m (by omega)]
/-- the part that is appended: where it lies -/
theorem part_reads {w : World} {B n u m c : Nat} {ad : Addr} {l : List Bool} (h : Reads w B (some ad) n (vb l)) (hk : u + m ≤ n) (A : Option Addr) (hA : 0 < m → A = some (ad.add u)) : Reads w B A m (vb (subL l u m)) := by
  rcases Nat.eq_zero_or_pos m with h0 | h0
  · subst h0
    have : subL l u 0 = [] := by simp [subL]
    rw [this]
    exact Reads.zero
  · rw [hA h0]; exact h.mid hk
theorem ret_iiiE {k k' k'' : IntKind} {a b a' b' c : Int} (h : a = b) (h2 : a' = b') : Ending.returned (.tuple #[.int k a, .int k' a', .int k'' c]) = .returned (.tuple #[.int k b, .int k' b', .int k'' c]) := by rw [h, h2]
set_option maxHeartbeats 800000 in
theorem elias_ReadDelta (A : Option Addr) (n c : Nat) (l : List Bool) (a b : Nat) (w : World) (h : Reads w w.heap.size A n (vb l)) (hn : n ≤ 140737488355328) (hcap : n ≤ c) (hr : Hid (delR l n = (a, b))) :
    Calls Try.prog 37 #[.slice A n c] w (RetB w (.tuple #[.int .i64 (a : Int), .int .i64 (b : Int), .int .i64 (if b = 0 then 5 else 0)])) := by
  have H := h.bool_len
  have cl := bits_Len_20 w
  have hz := hr.out
  by_cases h1 : 2 * zN l + 1 ≤ n ∧ zN l ≤ 4 ∧ gamN l ≤ 21
  · have c1 : Calls Try.prog 43 #[.slice A n c, .int .i64 21] w (Ret w (.tuple #[.int .i64 (gamN l : Int), .int .i64 ((2 * zN l + 1 : Nat) : Int)])) := elias_read A n c l 21 _ _ w h hn hcap (by unfold Hid; rw [rdR_21 H, if_pos h1])
    have hg1 : 1 ≤ gamN l := by
      have := gamN_ge (l := l) (by omega)
      have := Nat.pow_pos (n := zN l) (show 0 < 2 by omega)
      omega
    unfold delR at hz
    rw [if_pos h1] at hz
    obtain ⟨ad, e, _⟩ := h.cells (by omega)
    subst e
    obtain ⟨u, hu⟩ : ∃ u, u = 2 * zN l + 1 := ⟨_, rfl⟩
    obtain ⟨m, hm⟩ : ∃ m, m = gamN l - 1 := ⟨_, rfl⟩
    have hgm : gamN l = m + 1 := by omega
    rw [← hu, ← hm] at hz
    rw [← hu, hgm] at c1
    have hm20 : m ≤ 20 := by omega
    have hu1 : 1 ≤ u := by omega
    have hu9 : u ≤ 9 := by omega
    have hun : u ≤ n := by omega
    have ht : ((u : Int) == 0) = false := by simp; omega
    have em : ((m + 1 : Nat) : Int) = (m : Int) + 1 := by omega
    rw [em] at c1
    have es : (u : Int) + ((m : Int) + 1) - 1 = (u : Int) + m := by omega
    clear h1 hg1 hu hm hgm hr
    by_cases h2 : u + m ≤ n
    · have hle : ¬ (n : Int) < (u : Int) + m := by omega
      obtain ⟨hi, hhi⟩ : ∃ hi : Nat, hi = u + m := ⟨_, rfl⟩
      have ehi : (u : Int) + (m : Int) = (hi : Int) := by omega
      have esz : hi - u = m := by omega
      have hhic : hi ≤ c := by omega
      have huhi : u ≤ hi := by omega
      have hoA : Own (w.alloc (.cells #[.bool true] 4)) w.heap.size 4 (.slice (some ⟨w.heap.size, 0, none⟩) 1 1) [.bool true] := Own.built w #[.bool true] 1 rfl (by unfold maxLen; omega) (Nat.le_refl _)
      have hbA : Below w.heap.size w (w.alloc (.cells #[.bool true] 4)) := (Below.refl _ _).alloc (Nat.le_refl _) _
      have hrd : ∀ A', (0 < m → A' = some (ad.add u)) → Reads (w.alloc (.cells #[.bool true] 4)) w.heap.size A' m (vb (subL l u m)) := fun A' hA' => part_reads (c := c) (h.alloc (Nat.le_refl _) _) h2 A' hA'
      have cn := fun (A' : Option Addr) (q : Nat) (w' : World) (B : Nat) (hrr : Reads w' B A' (m + 1) (vb (delL l u m))) => elias_number A' (m + 1) q (delL l u m) w' hrr (by omega)
      have HG : Hid (delN l u m = numF (delL l u m) (m + 1)) := rfl
      rw [← HG.out] at cn
      have hdl := delL_len (u := u) (m := m) H h2
      have HV := Lib.hid (delL_vb l u m)
      have h4 : ¬ ((n : Int) < (hi : Int)) := by omega
      have HRD := Lib.hid hrd
      have hone : Hid (([Value.bool true] : List Value).length = 1) := rfl
      clear hrd hle
      by_cases h5 : delN l u m ≤ 1048576
      · rw [if_pos ⟨h2, h5⟩] at hz
        injection hz with e1 e2
        subst e1
        have hb0 : b ≠ 0 := by omega
        rw [if_neg hb0]
        have h6 : ¬ (1048576 : Int) < (delN l u m : Int) := by omega
        have HB : Hid ((hi : Int) = (b : Int)) := by unfold Hid; omega
        clear h5 h2 e2 hb0 hhi HG
        generalize delN l u m = g at *
        by_cases huc : u < c
        · have hr2 := HRD.out (some (ad.add u)) (fun _ => rfl)
          go_enter Try.func37, Try.ntmps37
          go_wp2_with (first | (go_at_call 53; refine cl.mono ?_; clear cl; rintro e w' ⟨rfl, rfl⟩) | (go_at_call 43; refine c1.mono ?_; clear c1; rintro e w' ⟨rfl, rfl⟩) | (at_builtin; refine appN el_boolsE rfl _ _ rfl rfl hoA rfl hr2 (one_vbE _) (by rw [hone.out]; unfold maxLen; omega) (by rw [hone.out]; omega) hbA.size ?_; intro v2 w2 ho2 hb2 _ _; rw [HV.out] at ho2; obtain ⟨A2, k2, e2⟩ := ho2.form; rw [List.length_map, hdl] at e2; subst e2; have cn := cn A2 k2 w2 _ ho2.reads) | (go_at_call 64; refine cn.mono ?_; rintro e w' ⟨rfl, rfl⟩))
          go_ret3
          exact ⟨ret_iiiE rfl (by have := HB.out; omega), hbA.trans hb2⟩
        · have hr2 := HRD.out (some ad) (fun _ => by omega)
          obtain rfl : c = u := by omega
          obtain rfl : m = 0 := by omega
          go_enter Try.func37, Try.ntmps37
          go_wp2_with (first | (go_at_call 53; refine cl.mono ?_; clear cl; rintro e w' ⟨rfl, rfl⟩) | (go_at_call 43; refine c1.mono ?_; clear c1; rintro e w' ⟨rfl, rfl⟩) | (at_builtin; refine appN el_boolsE rfl _ _ rfl rfl hoA rfl hr2 (one_vbE _) (by rw [hone.out]; unfold maxLen; omega) (by rw [hone.out]; omega) hbA.size ?_; intro v2 w2 ho2 hb2 _ _; rw [HV.out] at ho2; obtain ⟨A2, k2, e2⟩ := ho2.form; rw [List.length_map, hdl] at e2; subst e2; have cn := cn A2 k2 w2 _ ho2.reads) | (go_at_call 64; refine cn.mono ?_; rintro e w' ⟨rfl, rfl⟩))
          go_ret3
          exact ⟨ret_iiiE rfl (by have := HB.out; omega), hbA.trans hb2⟩
      · rw [if_neg (by omega)] at hz
        injection hz with e1 e2
        subst e1
        subst e2
        have h6 : (1048576 : Int) < (delN l u m : Int) := by omega
        clear h5 h2 hhi HG
        generalize delN l u m = g at *
        by_cases huc : u < c
        · have hr2 := HRD.out (some (ad.add u)) (fun _ => rfl)
          go_enter Try.func37, Try.ntmps37
          go_wp2_with (first | (go_at_call 53; refine cl.mono ?_; clear cl; rintro e w' ⟨rfl, rfl⟩) | (go_at_call 43; refine c1.mono ?_; clear c1; rintro e w' ⟨rfl, rfl⟩) | (at_builtin; refine appN el_boolsE rfl _ _ rfl rfl hoA rfl hr2 (one_vbE _) (by rw [hone.out]; unfold maxLen; omega) (by rw [hone.out]; omega) hbA.size ?_; intro v2 w2 ho2 hb2 _ _; rw [HV.out] at ho2; obtain ⟨A2, k2, e2⟩ := ho2.form; rw [List.length_map, hdl] at e2; subst e2; have cn := cn A2 k2 w2 _ ho2.reads) | (go_at_call 64; refine cn.mono ?_; rintro e w' ⟨rfl, rfl⟩))
          go_ret3
          exact ⟨rfl, hbA.trans hb2⟩
        · have hr2 := HRD.out (some ad) (fun _ => by omega)
          obtain rfl : c = u := by omega
          obtain rfl : m = 0 := by omega
          go_enter Try.func37, Try.ntmps37
          go_wp2_with (first | (go_at_call 53; refine cl.mono ?_; clear cl; rintro e w' ⟨rfl, rfl⟩) | (go_at_call 43; refine c1.mono ?_; clear c1; rintro e w' ⟨rfl, rfl⟩) | (at_builtin; refine appN el_boolsE rfl _ _ rfl rfl hoA rfl hr2 (one_vbE _) (by rw [hone.out]; unfold maxLen; omega) (by rw [hone.out]; omega) hbA.size ?_; intro v2 w2 ho2 hb2 _ _; rw [HV.out] at ho2; obtain ⟨A2, k2, e2⟩ := ho2.form; rw [List.length_map, hdl] at e2; subst e2; have cn := cn A2 k2 w2 _ ho2.reads) | (go_at_call 64; refine cn.mono ?_; rintro e w' ⟨rfl, rfl⟩))
          go_ret3
          exact ⟨rfl, hbA.trans hb2⟩
    · rw [if_neg (by omega)] at hz
      injection hz with e1 e2
      subst e1
      subst e2
      have hle : (n : Int) < (u : Int) + m := by omega
      go_enter Try.func37, Try.ntmps37
      go_wp2_with (first | (go_at_call 53; refine cl.mono ?_; clear cl; rintro e w' ⟨rfl, rfl⟩) | (go_at_call 43; refine c1.mono ?_; clear c1; rintro e w' ⟨rfl, rfl⟩))
      go_ret3
      exact ⟨rfl, Below.refl _ _⟩
  · have c1 : Calls Try.prog 43 #[.slice A n c, .int .i64 21] w (Ret w (.tuple #[.int .i64 0, .int .i64 0])) := elias_read A n c l 21 0 0 w h hn hcap (by unfold Hid; rw [rdR_21 H, if_neg h1])
    unfold delR at hz
    rw [if_neg h1] at hz
    injection hz with e1 e2
    subst e1
    subst e2
    clear h1 hr
    go_enter Try.func37, Try.ntmps37
    go_wp2_with (first | (go_at_call 53; refine cl.mono ?_; clear cl; rintro e w' ⟨rfl, rfl⟩) | (go_at_call 43; refine c1.mono ?_; clear c1; rintro e w' ⟨rfl, rfl⟩))
    go_ret3
    exact ⟨rfl, Below.refl _ _⟩
end Go.Proofs.Ytfhpgiidcggobaa

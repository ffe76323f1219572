import Derived.Test.YtijhcbnnopklaaaStatet
set_option linter.unusedVariables false
namespace Go.Proofs.Ytijhcbnnopklaaa
open Go.RowKit

/-! ### taking again and again -/
def symS (l : List Int) (q : Int) : Nat := ((List.range l.length).find? fun s => decide (q < sumI (l.take (s + 1)))).getD 0
theorem symS_spec {l : List Int} {q : Int} (h1 : q < sumI l) (h0 : 0 ≤ q) : ∃ k, l[symS l q]? = some k ∧ sumI (l.take (symS l q)) ≤ q ∧ q < sumI (l.take (symS l q)) + k ∧ ∀ j, j < symS l q → ¬ q < sumI (l.take (j + 1)) := by
  obtain ⟨s, k, hk, g1, g2, g3⟩ := sym_exists h1 h0
  have hs := (List.getElem?_eq_some_iff.1 hk).1
  have : (List.range l.length).find? (fun s => decide (q < sumI (l.take (s + 1)))) = some s := by
    rw [List.find?_range_eq_some]
    exact ⟨by rw [sumI_next hk]; simpa using g2, by simpa using hs, fun j hj => by simpa using g3 j hj⟩
  have e : symS l q = s := by unfold symS; rw [this]; rfl
  rw [e]
  exact ⟨k, hk, g1, g2, g3⟩
def rdS (l : List Int) (x : Int) : Nat := symS l (x % sumI l)
def rdX (l : List Int) (x : Int) : Int := takeY l x (rdS l x) (l.getD (rdS l x) 0)
def rdY (l : List Int) : Nat → Int → Int
  | 0, x => x
  | k + 1, x => rdX l (rdY l k x)
def rdL (l : List Int) (k : Nat) (x : Int) : List Int := (List.range k).map fun j => (rdS l (rdY l j x) : Int)
theorem rdL_next (l : List Int) (k : Nat) (x : Int) : rdL l (k + 1) x = rdL l k x ++ [(rdS l (rdY l k x) : Int)] := by
  unfold rdL; rw [List.range_succ, List.map_append]; rfl
theorem rdL_len (l : List Int) (k : Nat) (x : Int) : (rdL l k x).length = k := by simp [rdL]
theorem rd_spec {l : List Int} {x : Int} (hz : partsErr l x = 0) : ∃ k, l[rdS l x]? = some k ∧ sumI (l.take (rdS l x)) ≤ x % sumI l ∧ x % sumI l < sumI (l.take (rdS l x)) + k ∧ (∀ j, j < rdS l x → ¬ x % sumI l < sumI (l.take (j + 1))) ∧ rdX l x = takeY l x (rdS l x) k := by
  obtain ⟨h8, hall, hT1, hT16, hx0, hx1⟩ := partsErr_ok hz
  obtain ⟨k, hk, g1, g2, g3⟩ := symS_spec (l := l) (q := x % sumI l) (Int.emod_lt_of_pos x (by omega)) (Int.emod_nonneg x (by omega))
  refine ⟨k, hk, g1, g2, g3, ?_⟩
  unfold rdX
  congr 1
  unfold rdS
  rw [List.getD, hk]; rfl
theorem rd_ok {l : List Int} {x : Int} (hz : partsErr l x = 0) : partsErr l (rdX l x) = 0 := by
  obtain ⟨k, hk, g1, g2, g3, e⟩ := rd_spec hz
  obtain ⟨h8, hall, hT1, hT16, hx0, hx1⟩ := partsErr_ok hz
  rw [e]
  unfold takeY
  have hin := List.all_eq_true.1 hall k (mem_at hk)
  simp only [inPart, Bool.and_eq_true, decide_eq_true_eq] at hin
  have hP := sumI_bd (l.take (rdS l x)) (by rw [List.all_eq_true]; intro y hy; exact List.all_eq_true.1 hall y (List.mem_of_mem_take hy))
  have hkT : sumI (l.take (rdS l x)) + k ≤ sumI l := by rw [← sumI_next hk]; exact sum_take_le l _ hall
  generalize sumI (l.take (rdS l x)) = P at *
  have hq0 : 0 ≤ x / sumI l := Int.ediv_nonneg hx0 (by omega)
  have h1 : 0 ≤ x / sumI l * k := Int.mul_nonneg hq0 hin.1
  have h2 : x / sumI l * k ≤ x / sumI l * sumI l := Int.mul_le_mul_of_nonneg_left (by omega) hq0
  have h3 : x / sumI l * sumI l + x % sumI l = x := by rw [Int.mul_comm]; exact Int.mul_ediv_add_emod x (sumI l)
  unfold partsErr
  rw [if_neg (by omega), if_pos hall, if_neg]
  generalize x / sumI l * k = u at *
  generalize x / sumI l * sumI l = v at *
  generalize x % sumI l = m at *
  omega
theorem rdY_ok {l : List Int} {x : Int} (hz : partsErr l x = 0) (k : Nat) : partsErr l (rdY l k x) = 0 := by
  induction k with
  | zero => exact hz
  | succ k ih => exact rd_ok ih

set_option maxHeartbeats 600000 in
theorem state_Read_err (A : Option Addr) (n c : Nat) (l : List Int) (x N z : Int) (w : World) (h : Reads w w.heap.size A n (vi .i64 l)) (hz : Hid (partsErr l x = z)) (h0 : (z != 0) = true) :
    Calls Try.prog 29 #[.slice A n c, .int .i64 x, .int .i64 N] w (Ret w (.tuple #[.slice none 0 0, .int .i64 z])) := by
  have c1 := state_wrong A n c l x z w h hz
  go_enter Try.func29, Try.ntmps29
  go_wp2_with (go_at_call 45; refine c1.mono ?_; clear c1; rintro e w' ⟨rfl, rfl⟩)
  go_ret2
  exact ⟨rfl, rfl⟩
set_option maxHeartbeats 600000 in
theorem state_Read_large (A : Option Addr) (n c : Nat) (l : List Int) (x N : Int) (w : World) (h : Reads w w.heap.size A n (vi .i64 l)) (hz : Hid (partsErr l x = 0)) (h0 : 64 < N) :
    Calls Try.prog 29 #[.slice A n c, .int .i64 x, .int .i64 N] w (Ret w (.tuple #[.slice none 0 0, .int .i64 1])) := by
  have c1 := state_wrong A n c l x 0 w h hz
  go_enter Try.func29, Try.ntmps29
  go_wp2_with (go_at_call 45; refine c1.mono ?_; clear c1; rintro e w' ⟨rfl, rfl⟩)
  go_ret2
  exact ⟨rfl, rfl⟩
set_option maxHeartbeats 600000 in
theorem state_Read_neg (A : Option Addr) (n c : Nat) (l : List Int) (x N : Int) (w : World) (h : Reads w w.heap.size A n (vi .i64 l)) (hz : Hid (partsErr l x = 0)) (h0 : N < 0) :
    Calls Try.prog 29 #[.slice A n c, .int .i64 x, .int .i64 N] w (Ret w (.tuple #[.slice none 0 0, .int .i64 4])) := by
  have c1 := state_wrong A n c l x 0 w h hz
  go_enter Try.func29, Try.ntmps29
  go_wp2_with (go_at_call 45; refine c1.mono ?_; clear c1; rintro e w' ⟨rfl, rfl⟩)
  go_ret2
  exact ⟨rfl, rfl⟩

/-- what Read tells: a slice that the call made, and a code -/
def RetSE (w : World) (E : TypeId) (xs : List Value) (z : Int) (e : Ending) (w' : World) : Prop :=
  ∃ A n c, e = .returned (.tuple #[.slice A n c, .int .i64 z]) ∧ Own w' w.heap.size E (.slice A n c) xs ∧ Below w.heap.size w w'
set_option maxHeartbeats 1000000 in
theorem state_Read (A : Option Addr) (n c : Nat) (l : List Int) (x : Int) (N : Nat) (xs : List Int) (z : Int) (w : World) (h : Reads w w.heap.size A n (vi .i64 l)) (hc : n ≤ c) (hz : Hid (partsErr l x = 0)) (hN : N ≤ 64)
    (hr : Hid ((if rdY l N x = 0 then (rdL l N x, (0 : Int)) else ([], 3)) = (xs, z))) :
    Calls Try.prog 29 #[.slice A n c, .int .i64 x, .int .i64 (N : Int)] w (RetSE w 3 (vi .i64 xs) z) := by
  have c1 := state_wrong A n c l x 0 w h hz
  go_enter Try.func29, Try.ntmps29
  go_wp2_with (go_at_call 45; refine c1.mono ?_; clear c1; rintro e w' ⟨rfl, rfl⟩)
  go_loopw [1, 9, 24] (fun xv v i wr => ∃ (k : Nat) (y : Int), k ≤ N ∧ i = .int .i64 k ∧ xv = .int .i64 y ∧ Hid (rdY l k x = y) ∧ Own wr w.heap.size 3 v (vi .i64 (rdL l k x)) ∧ Below w.heap.size w wr) (fun _ _ i _ => N - (intOf i).toNat)
  case atStart => exact ⟨0, x, by omega, rfl, rfl, rfl, Own.nil _ _ _, Below.refl _ _⟩
  case round =>
    obtain ⟨k, y, hk, rfl, rfl, hy, hown, hb⟩ := hrel
    have hyz : partsErr l y = 0 := by rw [← hy.out]; exact rdY_ok hz.out k
    by_cases hlt : k < N
    · obtain ⟨q, hq, g1, g2, g3, ge⟩ := rd_spec hyz
      have ct := state_Take A n c l y (rdS l y) q _ ((h.below hb).more hb.size) hc hyz hq g1 g2 g3
      have HY : Hid (rdY l (k + 1) x = takeY l y (rdS l y) q) := by unfold Hid; rw [← ge, rdY, hy.out]
      have HL : Hid (rdL l (k + 1) x = rdL l k x ++ [(rdS l y : Int)]) := by unfold Hid; rw [rdL_next, hy.out]
      have hl2 : (vi .i64 (rdL l k x)).length ≤ 64 := by rw [List.length_map, rdL_len]; omega
      generalize takeY l y (rdS l y) q = y2 at *
      generalize rdS l y = s at *
      clear hyz hq g1 g2 g3 ge hy
      have hB := hb.size
      go_wp2_with (first | (go_at_call 17; refine ct.mono ?_; clear ct; rintro e w2 ⟨rfl, m1, rfl⟩) | (at_builtin; refine app1 el_intS rfl _ _ rfl rfl (hown.drewN m1) _ _ rfl rfl (by unfold maxLen; omega) (by omega) hB ?_; intro v1 w1 ho1 hb1 _ _))
      go_roundw
      case rel =>
        refine ⟨k + 1, y2, by omega, by go_num, rfl, HY, ?_, (below_drewN hb m1).trans hb1⟩
        rw [HL.out]
        simpa [vi] using ho1
      case measure => simp only [intOf]; omega
    · obtain rfl : k = N := by omega
      rw [hy.out] at hr
      by_cases hy0 : y = 0
      · subst hy0
        have e : (rdL l k x, (0 : Int)) = (xs, z) := by have := hr.out; rwa [if_pos rfl] at this
        injection e with e1 e2
        rw [e1] at hown
        subst e2
        clear e1 hr hyz
        obtain ⟨A2, c2, e⟩ := hown.form
        generalize hn2 : (vi .i64 xs).length = n2 at e
        subst e
        clear hn2
        go_wp2
        go_ret2
        exact ⟨A2, n2, c2, rfl, hown, hb⟩
      · have hy1 : (y != 0) = true := by simpa using hy0
        have e : (([] : List Int), (3 : Int)) = (xs, z) := by have := hr.out; rwa [if_neg hy0] at this
        injection e with e1 e2
        subst e1
        subst e2
        clear hr hyz hy0
        go_wp2
        go_ret2
        exact ⟨none, 0, 0, rfl, Own.nil _ _ _, hb⟩

set_option maxHeartbeats 800000 in
theorem law_Reads_bad (A : Option Addr) (n c : Nat) (l : List Int) (x N z u : Int) (w : World) (h : Reads w w.heap.size A n (vi .i64 l)) (hp : Hid (partsErr l x = u)) (hz : z ≠ 0)
    (c1 : Calls Try.prog 29 #[.slice A n c, .int .i64 x, .int .i64 N] w (Ret w (.tuple #[.slice none 0 0, .int .i64 z])))
    (hcase : u = z ∨ u = 0 ∧ z = 1 ∧ 64 < N ∨ u = 0 ∧ z = 4 ∧ N < 0) :
    Calls Try.prog 11 #[.slice A n c, .int .i64 x, .int .i64 N] w (LawTrue w) := by
  have c2 := ref_PartsCheck A n c l x u w h hp
  have z1 : (z == 0) = false := by simpa using hz
  have z2 : (z != 0) = true := by simpa using hz
  rcases hcase with h1 | ⟨h1, h2, h3⟩ | ⟨h1, h2, h3⟩
  · subst h1
    clear hz
    by_cases h0 : 0 < N
    all_goals
      go_enter Try.func11, Try.ntmps11
      go_wp2_with (first | (go_at_call 29; refine c1.mono ?_; clear c1; rintro e w1 ⟨rfl, rfl⟩) | (go_at_call 18; refine c2.mono ?_; clear c2; rintro e w' ⟨rfl, rfl⟩))
      go_loop [1, 10, 11] (fun xv v i => xv = .int .i64 x ∧ v = .slice none 0 0 ∧ i = .int .i64 0) (fun _ _ i => 0)
      case atStart => exact ⟨rfl, rfl, rfl⟩
      case round =>
        obtain ⟨rfl, rfl, rfl⟩ := hrel
        go_wp2
        go_ret
        exact .same _
  · subst h1
    subst h2
    have h0 : 0 < N := by omega
    have h4 : ¬ N < 0 := by omega
    clear hz z1 z2
    go_enter Try.func11, Try.ntmps11
    go_wp2_with (first | (go_at_call 29; refine c1.mono ?_; clear c1; rintro e w1 ⟨rfl, rfl⟩) | (go_at_call 18; refine c2.mono ?_; clear c2; rintro e w' ⟨rfl, rfl⟩))
    go_loop [1, 10, 11] (fun xv v i => xv = .int .i64 x ∧ v = .slice none 0 0 ∧ i = .int .i64 0) (fun _ _ i => 0)
    case atStart => exact ⟨rfl, rfl, rfl⟩
    case round =>
      obtain ⟨rfl, rfl, rfl⟩ := hrel
      go_wp2
      go_ret
      exact .same _
  · subst h1
    subst h2
    have h0 : ¬ 0 < N := by omega
    have h4 : ¬ 64 < N := by omega
    clear hz z1 z2
    go_enter Try.func11, Try.ntmps11
    go_wp2_with (first | (go_at_call 29; refine c1.mono ?_; clear c1; rintro e w1 ⟨rfl, rfl⟩) | (go_at_call 18; refine c2.mono ?_; clear c2; rintro e w' ⟨rfl, rfl⟩))
    go_loop [1, 10, 11] (fun xv v i => xv = .int .i64 x ∧ v = .slice none 0 0 ∧ i = .int .i64 0) (fun _ _ i => 0)
    case atStart => exact ⟨rfl, rfl, rfl⟩
    case round =>
      obtain ⟨rfl, rfl, rfl⟩ := hrel
      go_wp2
      go_ret
      exact .same _
set_option maxHeartbeats 1000000 in
theorem law_Reads_main (A : Option Addr) (n c : Nat) (l : List Int) (x : Int) (N : Nat) (w : World) (h : Reads w w.heap.size A n (vi .i64 l)) (hc : n ≤ c) (hz : Hid (partsErr l x = 0)) (hN : N ≤ 64) :
    Calls Try.prog 11 #[.slice A n c, .int .i64 x, .int .i64 (N : Int)] w (LawTrue w) := by
  obtain ⟨xs, z, hr⟩ : ∃ xs z, Hid ((if rdY l N x = 0 then (rdL l N x, (0 : Int)) else ([], 3)) = (xs, z)) := ⟨_, _, rfl⟩
  have c1 := state_Read A n c l x N xs z w h hc hz hN hr
  have c2 := fun (w' : World) (hr : Reads w' w.heap.size A n (vi .i64 l)) => ref_PartsCheck A n c l x 0 w' hr hz
  have d1 : ¬ (64 : Int) < (N : Int) := by omega
  have d2 : ¬ (N : Int) < 0 := by omega
  go_enter Try.func11, Try.ntmps11
  go_wp2_with (first | (go_at_call 29; refine c1.mono ?_; clear c1; rintro e w1 ⟨A1, n1, k1, rfl, ho1, hb1⟩) | (go_at_call 18; refine (c2 _ (h.below hb1)).mono ?_; clear c2; rintro e w' ⟨rfl, rfl⟩))
  go_loopw [1, 10, 11] (fun xv v i wr => ∃ (k : Nat) (y : Int), k ≤ N ∧ i = .int .i64 k ∧ xv = .int .i64 y ∧ Hid (rdY l k x = y) ∧ Own wr w1.heap.size 3 v (vi .i64 (rdL l k x)) ∧ Below w1.heap.size w1 wr) (fun _ _ i _ => N - (intOf i).toNat)
  case atStart => exact ⟨0, x, by omega, rfl, rfl, rfl, Own.nil _ _ _, Below.refl _ _⟩
  case round =>
    obtain ⟨k, y, hk, rfl, rfl, hy, hown, hb2⟩ := hrel
    have hyz : partsErr l y = 0 := by rw [← hy.out]; exact rdY_ok hz.out k
    have hb := hb1.trans (hb2.mono hb1.size)
    have hl2 : (vi .i64 (rdL l k x)).length ≤ 64 := by rw [List.length_map, rdL_len]; omega
    by_cases hlt : k < N
    · obtain ⟨q, hq, g1, g2, g3, ge⟩ := rd_spec hyz
      have ct := ref_Take A n c l y (rdS l y) q _ ((h.below hb).more hb.size) hyz hq g1 g2
      have HY : Hid (rdY l (k + 1) x = takeY l y (rdS l y) q) := by unfold Hid; rw [← ge, rdY, hy.out]
      have HL : Hid (rdL l (k + 1) x = rdL l k x ++ [(rdS l y : Int)]) := by unfold Hid; rw [rdL_next, hy.out]
      generalize takeY l y (rdS l y) q = y2 at *
      generalize rdS l y = s at *
      clear hyz hq g1 g2 g3 ge hy
      have hB := hb2.size
      go_wp2_with (first | (go_at_call 19; refine ct.mono ?_; clear ct; rintro e w2 ⟨rfl, hb3⟩; have hB3 := hb3.size) | (at_builtin; refine app1 el_intS rfl _ _ rfl rfl (hown.below hb3 (Nat.le_refl _)) _ _ rfl rfl (by unfold maxLen; omega) (by omega) (by omega) ?_; intro v1 w4 ho1 hb4 _ _))
      go_roundw
      case rel =>
        refine ⟨k + 1, y2, by omega, by go_num, rfl, HY, ?_, (hb2.trans (hb3.mono hB)).trans hb4⟩
        rw [HL.out]
        simpa [vi] using ho1
      case measure => simp only [intOf]; omega
    · obtain rfl : k = N := by omega
      rw [hy.out] at hr
      by_cases hy0 : y = 0
      · subst hy0
        have e : (rdL l k x, (0 : Int)) = (xs, z) := by have := hr.out; rwa [if_pos rfl] at this
        injection e with e1 e2
        rw [e1] at hown hl2
        subst e2
        clear e1 hr hyz
        obtain ⟨A2, c2, e⟩ := hown.form
        subst e
        have hn1 : n1 = (vi .i64 xs).length := ho1.len.symm
        have ci := ref_Ints A1 A2 n1 (vi .i64 xs).length k1 c2 xs xs true _ (ho1.below hb2 (Nat.le_refl _)).reads hown.reads (by unfold maxLen; omega) (by simp [Hid])
        clear hn1
        generalize (vi .i64 xs).length = n2 at *
        go_wp2_with (go_at_call 30; refine ci.mono ?_; clear ci; rintro e w5 ⟨rfl, m5, rfl⟩)
        go_ret
        exact ⟨rfl, below_drewN hb _⟩
      · have hy1 : (y != 0) = true := by simpa using hy0
        have e : (([] : List Int), (3 : Int)) = (xs, z) := by have := hr.out; rwa [if_neg hy0] at this
        injection e with e1 e2
        subst e1
        subst e2
        have hn1 : n1 = 0 := ho1.len.symm
        subst hn1
        clear hr hyz hy0
        go_wp2
        go_ret
        exact ⟨rfl, hb⟩
theorem StateReads_walk (A : Option Addr) (n c : Nat) (l : List Int) (x N : Int) (w : World) (h : Reads w w.heap.size A n (vi .i64 l)) (_ : ∀ z ∈ l, (Lit.int .i64 z).wf = true) (_ : n * 8 ≤ reachBytes) (hc : n ≤ c) (_ : (Lit.int .i64 x).wf = true) (_ : (Lit.int .i64 N).wf = true) :
    Calls Try.prog 11 #[.slice A n c, .int .i64 x, .int .i64 N] w (LawTrue w) := by
  by_cases h0 : partsErr l x = 0
  · by_cases h1 : 64 < N
    · exact law_Reads_bad A n c l x N 1 0 w h h0 (by omega) (state_Read_large A n c l x N w h h0 h1) (.inr (.inl ⟨rfl, rfl, h1⟩))
    · by_cases h2 : N < 0
      · exact law_Reads_bad A n c l x N 4 0 w h h0 (by omega) (state_Read_neg A n c l x N w h h0 h2) (.inr (.inr ⟨rfl, rfl, h2⟩))
      · obtain ⟨M, rfl⟩ := Int.eq_ofNat_of_zero_le (show 0 ≤ N by omega)
        exact law_Reads_main A n c l x M w h hc h0 (by omega)
  · exact law_Reads_bad A n c l x N (partsErr l x) (partsErr l x) w h rfl h0 (state_Read_err A n c l x N (partsErr l x) w h rfl (by simpa using h0)) (.inl rfl)
end Go.Proofs.Ytijhcbnnopklaaa

import Derived.Test.YtijhcbnnopklaaaStatew
set_option linter.unusedVariables false
namespace Go.Proofs.Ytijhcbnnopklaaa
open Go.RowKit

set_option maxHeartbeats 600000 in
theorem state_Write_err (A A' : Option Addr) (n c m c' : Nat) (l : List Int) (z : Int) (w : World) (h : Reads w w.heap.size A n (vi .i64 l)) (hz : Hid (partsErr l 0 = z)) (h0 : (z != 0) = true) :
    Calls Try.prog 28 #[.slice A n c, .slice A' m c'] w (Ret w (.tuple #[.int .i64 0, .int .i64 z])) := by
  have c1 := state_wrong A n c l 0 z w h hz
  go_enter Try.func28, Try.ntmps28
  go_wp2_with (go_at_call 45; refine c1.mono ?_; clear c1; rintro e w' ⟨rfl, rfl⟩)
  go_ret2
  exact ⟨rfl, rfl⟩
set_option maxHeartbeats 600000 in
theorem state_Write_long (A A' : Option Addr) (n c m c' : Nat) (l : List Int) (w : World) (h : Reads w w.heap.size A n (vi .i64 l)) (hz : Hid (partsErr l 0 = 0)) (hm : 64 < m) :
    Calls Try.prog 28 #[.slice A n c, .slice A' m c'] w (Ret w (.tuple #[.int .i64 0, .int .i64 1])) := by
  have c1 := state_wrong A n c l 0 0 w h hz
  go_enter Try.func28, Try.ntmps28
  go_wp2_with (go_at_call 45; refine c1.mono ?_; clear c1; rintro e w' ⟨rfl, rfl⟩)
  go_ret2
  exact ⟨rfl, rfl⟩

set_option maxHeartbeats 800000 in
theorem law_Writes_err (A A' : Option Addr) (n c m c' : Nat) (l : List Int) (z : Int) (w : World) (hm2 : m ≤ 140737488355328) (h : Reads w w.heap.size A n (vi .i64 l)) (hz : Hid (partsErr l 0 = z)) (h0 : (z != 0) = true) :
    Calls Try.prog 10 #[.slice A n c, .slice A' m c'] w (LawTrue w) := by
  have c1 := state_Write_err A A' n c m c' l z w h hz h0
  have c2 := ref_PartsCheck A n c l 0 z w h hz
  have h1 : (z == 0) = false := by simpa using h0
  by_cases hm : m = 0
  · subst hm
    go_enter Try.func10, Try.ntmps10
    go_wp2_with (first | (go_at_call 28; refine c1.mono ?_; clear c1; rintro e w1 ⟨rfl, rfl⟩) | (go_at_call 18; refine c2.mono ?_; clear c2; rintro e w' ⟨rfl, rfl⟩))
    go_loop [7, 8, 9] (fun wv xv i => wv = .int .i64 z ∧ xv = .int .i64 0 ∧ i = .int .i64 (-1)) (fun _ _ i => 0)
    case atStart => exact ⟨rfl, rfl, rfl⟩
    case round =>
      obtain ⟨rfl, rfl, rfl⟩ := hrel
      go_wp2
      go_ret
      exact .same _
  · have i1 : (1 : Int) ≤ (m : Int) := by omega
    have i2 : (0 : Int) ≤ (m : Int) - 1 := by omega
    go_enter Try.func10, Try.ntmps10
    go_wp2_with (first | (go_at_call 28; refine c1.mono ?_; clear c1; rintro e w1 ⟨rfl, rfl⟩) | (go_at_call 18; refine c2.mono ?_; clear c2; rintro e w' ⟨rfl, rfl⟩))
    go_loop [7, 8, 9] (fun wv xv i => wv = .int .i64 z ∧ xv = .int .i64 0 ∧ i = .int .i64 ((m : Int) - 1)) (fun _ _ i => 0)
    case atStart => exact ⟨rfl, rfl, rfl⟩
    case round =>
      obtain ⟨rfl, rfl, rfl⟩ := hrel
      go_wp2
      go_ret
      exact .same _
set_option maxHeartbeats 800000 in
theorem law_Writes_long (A A' : Option Addr) (n c m c' : Nat) (l : List Int) (w : World) (hm2 : m ≤ 140737488355328) (h : Reads w w.heap.size A n (vi .i64 l)) (hz : Hid (partsErr l 0 = 0)) (hm : 64 < m) :
    Calls Try.prog 10 #[.slice A n c, .slice A' m c'] w (LawTrue w) := by
  have c1 := state_Write_long A A' n c m c' l w h hz hm
  have c2 := ref_PartsCheck A n c l 0 0 w h hz
  have i1 : (1 : Int) ≤ (m : Int) := by omega
  have i2 : (0 : Int) ≤ (m : Int) - 1 := by omega
  go_enter Try.func10, Try.ntmps10
  go_wp2_with (first | (go_at_call 28; refine c1.mono ?_; clear c1; rintro e w1 ⟨rfl, rfl⟩) | (go_at_call 18; refine c2.mono ?_; clear c2; rintro e w' ⟨rfl, rfl⟩))
  go_loop [7, 8, 9] (fun wv xv i => wv = .int .i64 1 ∧ xv = .int .i64 0 ∧ i = .int .i64 ((m : Int) - 1)) (fun _ _ i => 0)
  case atStart => exact ⟨rfl, rfl, rfl⟩
  case round =>
    obtain ⟨rfl, rfl, rfl⟩ := hrel
    go_wp2
    go_ret
    exact .same _

/-- what the law's loop knows: z is what went wrong -/
def WrOk (l L : List Int) (a b : Int) (r : Nat) (y z : Int) : Prop := if z = 0 then partsErr l y = 0 ∧ wrF l (L.take r).reverse y = (a, b) else a = 0 ∧ b = z
set_option maxHeartbeats 1000000 in
theorem law_Writes_main (A A' : Option Addr) (n c m c' : Nat) (l L : List Int) (a b : Int) (w : World) (h : Reads w w.heap.size A n (vi .i64 l)) (h' : Reads w w.heap.size A' m (vi .i64 L)) (hc : n ≤ c) (hz : Hid (partsErr l 0 = 0)) (hm : m ≤ 64) (hr : Hid (wrF l L.reverse 0 = (a, b))) :
    Calls Try.prog 10 #[.slice A n c, .slice A' m c'] w (LawTrue w) := by
  have H := Lib.hid h.int_len
  have H' := Lib.hid h'.int_len
  have c1 := state_Write A A' n c m c' l L a b w h h' hc hz hm hr
  have c2 := fun (w' : World) (hr : Reads w' w.heap.size A n (vi .i64 l)) => ref_PartsCheck A n c l 0 0 w' hr hz
  go_enter Try.func10, Try.ntmps10
  go_wp2_with (first | (go_at_call 28; refine c1.mono ?_; clear c1; rintro e w1 ⟨rfl, m1, rfl⟩) | (go_at_call 18; refine (c2 _ (h.drewN _)).mono ?_; clear c2; rintro e w' ⟨rfl, rfl⟩))
  go_loopw [7, 8, 9] (fun wv xv i wr => ∃ (r : Nat) (y z : Int), r ≤ m ∧ i = .int .i64 ((r : Int) - 1) ∧ xv = .int .i64 y ∧ wv = .int .i64 z ∧ Hid (WrOk l L a b r y z) ∧ Below w.heap.size w wr) (fun _ _ i _ => ((intOf i) + 1).toNat)
  case atStart =>
    refine ⟨m, 0, 0, Nat.le_refl _, by go_num, rfl, rfl, ?_, below_drewN (Below.refl _ _) _⟩
    unfold Hid WrOk; rw [if_pos rfl, List.take_of_length_le (Nat.le_of_eq H'.out)]; exact ⟨hz.out, hr.out⟩
  case round =>
    obtain ⟨r, y, z, hrm, rfl, rfl, rfl, hw, hb⟩ := hrel
    by_cases hz0 : z = 0
    · subst hz0
      have hw2 := hw.out
      unfold WrOk at hw2
      rw [if_pos rfl] at hw2
      obtain ⟨hy, hw3⟩ := hw2
      match r with
      | 0 =>
        have e : (y, (0 : Int)) = (a, b) := by simpa [wrF] using hw3
        injection e with e1 e2
        subst e1
        subst e2
        clear hw3
        go_wp2
        go_ret
        exact ⟨rfl, hb⟩
      | r + 1 =>
        obtain ⟨ad, s, e, hbb, hx, hcx⟩ := (h'.below hb).int_at (k := r) (by omega)
        subst e
        rw [rev_next hx, wrF] at hw3
        have er : ((r + 1 : Nat) : Int) - 1 = (r : Int) := by omega
        rw [er]
        have i1 : (0 : Int) ≤ (r : Int) := Int.natCast_nonneg r
        have i2 : (r : Int) < (m : Int) := by omega
        clear er hx hw
        by_cases hs : s < 0 ∨ (n : Int) ≤ s
        · have HW : Hid (WrOk l L a b r y 2) := by
            rw [putR_out (by rw [H.out]; exact hs), if_neg (by simp)] at hw3
            unfold Hid WrOk; rw [if_neg (by omega)]; simp only [Prod.mk.injEq] at hw3; exact ⟨hw3.1.symm, hw3.2.symm⟩
          clear hw3
          by_cases hs0 : s < 0
          · clear hs
            go_wp2
            go_roundw
            case rel => exact ⟨r, y, 2, by omega, by go_num, rfl, rfl, HW, hb⟩
            case measure => simp only [intOf]; omega
          · have hs1 : (n : Int) ≤ s := by omega
            clear hs
            go_wp2
            go_roundw
            case rel => exact ⟨r, y, 2, by omega, by go_num, rfl, rfl, HW, hb⟩
            case measure => simp only [intOf]; omega
        · obtain ⟨t, rfl⟩ := Int.eq_ofNat_of_zero_le (show 0 ≤ s by omega)
          have htn : t < n := by omega
          obtain ⟨ad2, k, e, hb2, hx, hcx2⟩ := (h.below hb).int_at htn
          subst e
          have j1 : (0 : Int) ≤ (t : Int) := Int.natCast_nonneg t
          have j2 : (t : Int) < (n : Int) := Int.ofNat_lt.2 htn
          have d3 : decide (n ≤ t) = false := decide_eq_false (by omega)
          rw [putR_at hx] at hw3
          clear hs
          by_cases hk : k = 0
          · subst hk
            have HW : Hid (WrOk l L a b r y 2) := by
              rw [if_pos rfl, if_neg (by simp)] at hw3
              unfold Hid WrOk; rw [if_neg (by omega)]; simp only [Prod.mk.injEq] at hw3; exact ⟨hw3.1.symm, hw3.2.symm⟩
            clear hw3 hx
            go_wp2
            go_roundw
            case rel => exact ⟨r, y, 2, by omega, by go_num, rfl, rfl, HW, hb⟩
            case measure => simp only [intOf]; omega
          · have e1 : (k == 0) = false := by simpa using hk
            have cp := ref_Put (some ad2) n c l y t k _ ((h.below hb).more hb.size) hy hx hk
            have hok := putR_ok (s := (t : Int)) hy
            rw [putR_at hx, if_neg hk] at hok
            rw [if_neg hk] at hw3
            unfold putRes at hok hw3
            generalize putY l y t k = y2 at *
            by_cases hbig : 1099511627776 < y2
            · have HW : Hid (WrOk l L a b r y2 1) := by
                rw [if_pos hbig, if_neg (by simp)] at hw3
                unfold Hid WrOk; rw [if_neg (by omega)]; simp only [Prod.mk.injEq] at hw3; exact ⟨hw3.1.symm, hw3.2.symm⟩
              clear hw3 hx hok hk hy
              go_wp2_with (go_at_call 21; refine cp.mono ?_; clear cp; rintro e w2 ⟨rfl, hb3⟩)
              go_roundw
              case rel => exact ⟨r, y2, 1, by omega, by go_num, rfl, rfl, HW, hb.trans (hb3.mono hb.size)⟩
              case measure => simp only [intOf]; omega
            · have HW : Hid (WrOk l L a b r y2 0) := by
                rw [if_neg hbig] at hw3 hok
                simp only [if_true] at hw3
                unfold Hid WrOk; rw [if_pos rfl]; exact ⟨hok rfl, hw3⟩
              clear hw3 hx hok hk hy
              go_wp2_with (go_at_call 21; refine cp.mono ?_; clear cp; rintro e w2 ⟨rfl, hb3⟩)
              go_roundw
              case rel => exact ⟨r, y2, 0, by omega, by go_num, rfl, rfl, HW, hb.trans (hb3.mono hb.size)⟩
              case measure => simp only [intOf]; omega
    · have hw2 := hw.out
      unfold WrOk at hw2
      rw [if_neg hz0] at hw2
      obtain ⟨e1, e2⟩ := hw2
      subst e1
      subst e2
      have n1 : (b == 0) = false := by simpa using hz0
      have n2 : (b != 0) = true := by simpa using hz0
      clear hw
      by_cases hr0 : r = 0
      · subst hr0
        clear hz0
        go_wp2
        go_ret
        exact ⟨rfl, hb⟩
      · have i1 : (1 : Int) ≤ (r : Int) := by omega
        have i2 : (0 : Int) ≤ (r : Int) - 1 := by omega
        clear hz0
        go_wp2
        go_ret
        exact ⟨rfl, hb⟩
theorem StateWrites_walk (A : Option Addr) (n c : Nat) (l : List Int) (A' : Option Addr) (m c' : Nat) (L : List Int) (w : World) (h : Reads w w.heap.size A n (vi .i64 l)) (_ : ∀ z ∈ l, (Lit.int .i64 z).wf = true) (_ : n * 8 ≤ reachBytes) (hc : n ≤ c)
    (h' : Reads w w.heap.size A' m (vi .i64 L)) (_ : ∀ z ∈ L, (Lit.int .i64 z).wf = true) (hm8 : m * 8 ≤ reachBytes) (_ : m ≤ c') :
    Calls Try.prog 10 #[.slice A n c, .slice A' m c'] w (LawTrue w) := by
  have hm2 : m ≤ 140737488355328 := by have := reachBytes_lt; omega
  by_cases h0 : partsErr l 0 = 0
  · by_cases hm : 64 < m
    · exact law_Writes_long A A' n c m c' l w hm2 h h0 hm
    · exact law_Writes_main A A' n c m c' l L (wrF l L.reverse 0).1 (wrF l L.reverse 0).2 w h h' hc h0 (by omega) rfl
  · exact law_Writes_err A A' n c m c' l (partsErr l 0) w hm2 h rfl (by simpa using h0)
end Go.Proofs.Ytijhcbnnopklaaa

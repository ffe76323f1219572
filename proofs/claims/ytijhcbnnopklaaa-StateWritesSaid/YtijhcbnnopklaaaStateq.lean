import Derived.Test.YtijhcbnnopklaaaStatep
set_option linter.unusedVariables false
namespace Go.Proofs.Ytijhcbnnopklaaa
open Go.RowKit

set_option maxHeartbeats 600000 in
theorem state_Put_zero (A : Option Addr) (n c : Nat) (l : List Int) (x : Int) (s : Nat) (w : World) (h : Reads w w.heap.size A n (vi .i64 l)) (hz : Hid (partsErr l x = 0)) (hk : Hid (l[s]? = some 0)) :
    Calls Try.prog 20 #[.slice A n c, .int .i64 x, .int .i64 (s : Int)] w (Ret w (.tuple #[.int .i64 0, .int .i64 2])) := by
  have H := Lib.hid h.int_len
  have c1 := state_wrong A n c l x 0 w h hz
  have hsn : s < n := by rw [← H.out]; exact (List.getElem?_eq_some_iff.1 hk.out).1
  obtain ⟨ad, z, e, hb, hzx, hcz⟩ := h.int_at hsn
  subst e
  obtain rfl : z = 0 := by have := hzx.symm.trans hk.out; injection this
  have i1 : (0 : Int) ≤ (s : Int) := Int.natCast_nonneg s
  have i2 : (s : Int) < (n : Int) := Int.ofNat_lt.2 hsn
  have d3 : decide (n ≤ s) = false := decide_eq_false (by omega)
  clear hzx
  go_enter Try.func20, Try.ntmps20
  go_wp2_with (go_at_call 45; refine c1.mono ?_; rintro e w' ⟨rfl, rfl⟩)
  go_ret2
  exact ⟨rfl, rfl⟩

def putY (l : List Int) (x : Int) (s : Nat) (k : Int) : Int := x / k * sumI l + sumI (l.take s) + x % k
set_option maxHeartbeats 800000 in
theorem ref_Put (A : Option Addr) (n c : Nat) (l : List Int) (x : Int) (s : Nat) (k : Int) (w : World) (h : Reads w w.heap.size A n (vi .i64 l)) (hz : Hid (partsErr l x = 0)) (hk : Hid (l[s]? = some k)) (hk0 : k ≠ 0) :
    Calls Try.prog 21 #[.slice A n c, .int .i64 x, .int .i64 (s : Int)] w (fun e w' => e = .returned (.int .i64 (putY l x s k)) ∧ Below w.heap.size w w') := by
  have H := Lib.hid h.int_len
  obtain ⟨h8, hall, hT1, hT16, hx0, hx1⟩ := partsErr_ok hz.out
  rw [H.out] at h8
  have hsn : s < n := by rw [← H.out]; exact (List.getElem?_eq_some_iff.1 hk.out).1
  have hin := List.all_eq_true.1 hall k (mem_at hk.out)
  simp only [inPart, Bool.and_eq_true, decide_eq_true_eq] at hin
  obtain ⟨hk1, hk16⟩ := hin
  have hk1' : 1 ≤ k := by omega
  have c1 := ref_Owners A n c l w h h8 hall
  obtain ⟨N, hN⟩ : ∃ N, (ownA 0 l).length = N := ⟨_, rfl⟩
  obtain ⟨p, hp⟩ : ∃ p, (ownA 0 (l.take s)).length = p := ⟨_, rfl⟩
  have hNT : (N : Int) = sumI l := by rw [← hN]; exact ownA_len 0 l hall
  have hpP : (p : Int) = sumI (l.take s) := by
    rw [← hp]; exact ownA_len 0 _ (by rw [List.all_eq_true]; intro y hy; exact List.all_eq_true.1 hall y (List.mem_of_mem_take hy))
  obtain ⟨hq0, hq1, hm0, hm1, hqT0, hqT1⟩ := quo_bd (T := (N : Int)) hx0 hx1 hk1' (by omega) (by omega)
  obtain ⟨m, hm⟩ : ∃ m : Nat, x % k = (m : Int) := ⟨(x % k).toNat, by omega⟩
  have HY : Hid (putY l x s k = x / k * (N : Int) + ((p + m : Nat) : Int)) := by
    unfold Hid putY; rw [← hNT, ← hpP, hm]; omega
  have hmk : m < k.toNat := by omega
  have hI := Lib.hid (fun i (h1 : p ≤ i) (h2 : i < p + k.toNat) => own_in hk.out hp h1 h2)
  have hL := Lib.hid (fun i (h1 : i < p) => own_lt hk.out hp h1)
  have hpm : p + m < N := by
    rw [← hN]
    exact (List.getElem?_eq_some_iff.1 (hI.out (p + m) (by omega) (by omega))).1
  have hN16 : N ≤ 16 := by omega
  obtain ⟨ad, z, e, hb, hzx, hcz0⟩ := h.int_at hsn
  subst e
  obtain rfl : z = k := by have := hzx.symm.trans hk.out; injection this
  have HN := Lib.hid hN
  have ew1 : wrap64 (x / z * (N : Int)) = x / z * (N : Int) := IntWalk.wrap64_in _ (by omega)
  obtain ⟨qT, hqT⟩ : ∃ qT, x / z * (N : Int) = qT := ⟨_, rfl⟩
  rw [hqT] at hqT0 hqT1 ew1 HY
  have ew1' : wrap64 (x / z * (N : Int)) = qT := by rw [hqT]; exact ew1
  have i1 : (0 : Int) ≤ (s : Int) := Int.natCast_nonneg s
  have i2 : (s : Int) < (n : Int) := Int.ofNat_lt.2 hsn
  have hkk := Lib.hid hmk
  clear hzx hN hp hNT hpP hqT ew1 hT1 hT16 hall hmk
  go_enter Try.func21, Try.ntmps21
  go_wp2_with (go_at_call 47; refine c1.mono ?_; rintro e w1 ⟨A1, n1, k1, rfl, ho1, hb1⟩; have hcz : w1.cell? (ad.add s) = some (.int .i64 z) := (hb1.cell (by rw [block_of_add]; exact hb)).trans hcz0)
  have hn1 : n1 = N := by rw [← ho1.len, List.length_map]; exact HN.out
  subst hn1
  clear c1
  go_loop [9, 23] (fun q i => ∃ j : Nat, j ≤ p + m ∧ i = .int .i64 j ∧ q = .int .i64 ((m - (j - p) : Nat) : Int)) (fun _ i => p + m + 1 - (intOf i).toNat)
  case atStart => exact ⟨0, by omega, rfl, by simp; exact hm⟩
  case round =>
    obtain ⟨j, hj, rfl, rfl⟩ := hrel
    obtain ⟨ad2, o, e2, hb2, ho, hco⟩ := ho1.reads.int_at (k := j) (by omega)
    subst e2
    by_cases hjp : j < p
    · obtain ⟨o2, h1, h2⟩ := hL.out j hjp
      obtain rfl : o2 = o := by have := h1.symm.trans ho; injection this
      have e1 : (o2 == (s : Int)) = false := by simpa using h2
      have hq : Hid (m - (j - p) = m - (j + 1 - p)) := by unfold Hid; omega
      clear h1 h2 ho
      go_wp2
      go_round
      case rel => exact ⟨j + 1, by omega, by go_num, by rw [hq.out]⟩
      case measure => simp [intOf]; omega
    · have h1 := hI.out j (by omega) (by have := hkk.out; omega)
      obtain rfl : (s : Int) = o := by have := h1.symm.trans ho; injection this
      have e1 : ((s : Int) == (s : Int)) = true := by simp
      clear h1 ho
      by_cases hjm : j < p + m
      · obtain ⟨d, hd⟩ : ∃ d, m - (j - p) = d + 1 := ⟨m - (j - p) - 1, by omega⟩
        have hq : Hid (m - (j + 1 - p) = d) := by unfold Hid; omega
        have hd16 : d ≤ 16 := by have := hkk.out; omega
        rw [hd]
        have e3 : (((d + 1 : Nat) : Int) == 0) = false := by simp; omega
        clear hd
        go_wp2
        go_round
        case rel => exact ⟨j + 1, by omega, by go_num, by rw [hq.out]⟩
        case measure => simp [intOf]; omega
      · obtain rfl : j = p + m := by omega
        have hd : m - (p + m - p) = 0 := by omega
        rw [hd]
        clear hd
        go_wp2
        go_ret
        exact ⟨by rw [HY.out]; rfl, hb1⟩
set_option maxHeartbeats 800000 in
theorem StatePuts_walk (A : Option Addr) (n c : Nat) (l : List Int) (x s : Int) (w : World) (h : Reads w w.heap.size A n (vi .i64 l)) (_ : ∀ z ∈ l, (Lit.int .i64 z).wf = true) (_ : n * 8 ≤ reachBytes) (hc : n ≤ c) (_ : (Lit.int .i64 x).wf = true) (_ : (Lit.int .i64 s).wf = true) :
    Calls Try.prog 5 #[.slice A n c, .int .i64 x, .int .i64 s] w (LawTrue w) := by
  have H := Lib.hid h.int_len
  by_cases h0 : partsErr l x = 0
  · have c2 := fun (w' : World) (hr : Reads w' w.heap.size A n (vi .i64 l)) => ref_PartsCheck A n c l x 0 w' hr h0
    by_cases hs : s < 0 ∨ (n : Int) ≤ s
    · have c1 := state_Put_out A n c l x s w h h0 hs
      clear h0
      by_cases hs0 : s < 0
      · clear hs
        go_enter Try.func5, Try.ntmps5
        go_wp2_with (first | (go_at_call 20; refine c1.mono ?_; rintro e w1 ⟨rfl, rfl⟩) | (go_at_call 18; refine (c2 _ h).mono ?_; rintro e w' ⟨rfl, rfl⟩))
        go_ret
        exact .same _
      · have hs1 : (n : Int) ≤ s := by omega
        clear hs
        go_enter Try.func5, Try.ntmps5
        go_wp2_with (first | (go_at_call 20; refine c1.mono ?_; rintro e w1 ⟨rfl, rfl⟩) | (go_at_call 18; refine (c2 _ h).mono ?_; rintro e w' ⟨rfl, rfl⟩))
        go_ret
        exact .same _
    · obtain ⟨t, rfl⟩ := Int.eq_ofNat_of_zero_le (show 0 ≤ s by omega)
      have htn : t < n := by omega
      obtain ⟨ad, k, e, hb, hx, hcx⟩ := h.int_at htn
      subst e
      have i1 : (0 : Int) ≤ (t : Int) := Int.natCast_nonneg t
      have i2 : (t : Int) < (n : Int) := Int.ofNat_lt.2 htn
      have d3 : decide (n ≤ t) = false := decide_eq_false (by omega)
      clear hs
      by_cases hk : k = 0
      · subst hk
        have c1 := state_Put_zero (some ad) n c l x t w h h0 hx
        clear h0 hx
        go_enter Try.func5, Try.ntmps5
        go_wp2_with (first | (go_at_call 20; refine c1.mono ?_; rintro e w1 ⟨rfl, rfl⟩) | (go_at_call 18; refine (c2 _ h).mono ?_; rintro e w' ⟨rfl, rfl⟩))
        go_ret
        exact .same _
      · have e1 : (k == 0) = false := by simpa using hk
        have c3 := fun (w1 : World) (hb1 : Below w.heap.size w w1) => ref_Put (some ad) n c l x t k w1 ((h.below hb1).more hb1.size) h0 hx hk
        by_cases hbig : 1099511627776 < putY l x t k
        · have c1 := state_Put (some ad) n c l x t k 0 1 w h hc h0 hx hk (by show putRes (putY l x t k) = _; rw [putRes, if_pos hbig])
          clear h0 hx hk
          generalize putY l x t k = y at *
          go_enter Try.func5, Try.ntmps5
          go_wp2_with (first | (go_at_call 20; refine c1.mono ?_; rintro e w1 ⟨rfl, m1, rfl⟩) | (go_at_call 18; refine (c2 _ (h.drewN _)).mono ?_; rintro e w' ⟨rfl, rfl⟩) | (go_at_call 21; refine (c3 _ (below_drewN (Below.refl _ _) _)).mono ?_; rintro e w2 ⟨rfl, hb2⟩))
          go_ret
          exact ⟨rfl, (below_drewN (Below.refl _ _) _).trans hb2⟩
        · have c1 := state_Put (some ad) n c l x t k (putY l x t k) 0 w h hc h0 hx hk (by show putRes (putY l x t k) = _; rw [putRes, if_neg hbig])
          clear h0 hx hk
          generalize putY l x t k = y at *
          go_enter Try.func5, Try.ntmps5
          go_wp2_with (first | (go_at_call 20; refine c1.mono ?_; rintro e w1 ⟨rfl, m1, rfl⟩) | (go_at_call 18; refine (c2 _ (h.drewN _)).mono ?_; rintro e w' ⟨rfl, rfl⟩; have hw1 : Below w.heap.size w (w.drewN m1) := below_drewN (Below.refl _ _) _) | (go_at_call 21; refine (c3 _ hw1).mono ?_; clear hw1; rintro e w2 ⟨rfl, hb2⟩; have hw2 : Below w.heap.size w w2 := (below_drewN (Below.refl _ _) _).trans hb2) | (go_at_call 21; refine (c3 _ hw2).mono ?_; rintro e w3 ⟨rfl, hb3⟩))
          go_ret
          exact ⟨rfl, hw2.trans (hb3.mono hw2.size)⟩
  · have hz : (partsErr l x != 0) = true := by simpa using h0
    have hz2 : (partsErr l x == 0) = false := by simpa using h0
    have c1 := state_Put_err A n c l x s (partsErr l x) w h rfl hz
    have c2 := ref_PartsCheck A n c l x (partsErr l x) w h rfl
    clear h0
    generalize partsErr l x = z at *
    go_enter Try.func5, Try.ntmps5
    go_wp2_with (first | (go_at_call 20; refine c1.mono ?_; rintro e w1 ⟨rfl, rfl⟩) | (go_at_call 18; refine c2.mono ?_; rintro e w' ⟨rfl, rfl⟩))
    go_ret
    exact .same _
end Go.Proofs.Ytijhcbnnopklaaa

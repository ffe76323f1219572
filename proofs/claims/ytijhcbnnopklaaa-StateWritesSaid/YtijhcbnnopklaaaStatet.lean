import Derived.Test.YtijhcbnnopklaaaStateq
import Derived.Test.YtijhcbnnopklaaaOnes
set_option linter.unusedVariables false
namespace Go.Proofs.Ytijhcbnnopklaaa
open Go.RowKit

/-- the symbol in whose parts a number lies -/
theorem sym_exists {l : List Int} {q : Int} (h1 : q < sumI l) (h0 : 0 ≤ q) : ∃ s k, l[s]? = some k ∧ sumI (l.take s) ≤ q ∧ q < sumI (l.take s) + k ∧ ∀ j, j < s → ¬ q < sumI (l.take (j + 1)) := by
  have hne : l ≠ [] := by intro h; subst h; simp [sumI] at h1; omega
  have hlen : 0 < l.length := List.length_pos_iff.2 hne
  obtain ⟨s, hs, hp, hmin⟩ := least_of (fun s => q < sumI (l.take (s + 1))) (l.length - 1) ⟨l.length - 1, Nat.le_refl _, by rw [show l.length - 1 + 1 = l.length from by omega, List.take_length]; exact h1⟩
  have hx : l[s]? = some (l[s]'(by omega)) := List.getElem?_eq_getElem (by omega)
  refine ⟨s, _, hx, ?_, ?_, hmin⟩
  · rcases Nat.eq_zero_or_pos s with rfl | h
    · simp [sumI]; exact h0
    · have := hmin (s - 1) (by omega)
      rw [show s - 1 + 1 = s from by omega] at this; omega
  · rw [← sumI_next hx]; exact hp

def takeY (l : List Int) (x : Int) (s : Nat) (k : Int) : Int := x / sumI l * k + (x % sumI l) - sumI (l.take s)
set_option maxHeartbeats 800000 in
theorem state_Take (A : Option Addr) (n c : Nat) (l : List Int) (x : Int) (s : Nat) (k : Int) (w : World) (h : Reads w w.heap.size A n (vi .i64 l)) (hc : n ≤ c) (hz : Hid (partsErr l x = 0)) (hk : Hid (l[s]? = some k))
    (hs1 : Hid (sumI (l.take s) ≤ x % sumI l)) (hs2 : Hid (x % sumI l < sumI (l.take s) + k)) (hmin : Hid (∀ j, j < s → ¬ x % sumI l < sumI (l.take (j + 1)))) :
    Calls Try.prog 17 #[.slice A n c, .int .i64 x] w (RetQ w (.tuple #[.int .i64 (takeY l x s k), .int .i64 (s : Int), .int .i64 0])) := by
  have H := Lib.hid h.int_len
  have c1 := state_wrong A n c l x 0 w h hz
  obtain ⟨h8, hall, hT1, hT16, hx0, hx1⟩ := partsErr_ok hz.out
  rw [H.out] at h8
  have hsn : s < n := by rw [← H.out]; exact (List.getElem?_eq_some_iff.1 hk.out).1
  have hin := List.all_eq_true.1 hall k (mem_at hk.out)
  simp only [inPart, Bool.and_eq_true, decide_eq_true_eq] at hin
  obtain ⟨hk1, hk16⟩ := hin
  obtain ⟨pr, hpr⟩ : ∃ pr : Nat → Int, ∀ s, Hid (sumI (l.take s) = pr s) := ⟨fun s => sumI (l.take s), fun _ => rfl⟩
  have hTn : sumI l = pr n := by rw [← (hpr n).out, List.take_of_length_le (Nat.le_of_eq H.out)]
  have HALL := Lib.hid hall
  have HY : Hid (takeY l x s k = x / pr n * k + x % pr n - pr s) := by unfold Hid takeY; rw [hTn, (hpr s).out]
  rw [hTn] at hT1 hT16 hs1 hs2 hmin
  rw [(hpr s).out] at hs1 hs2
  have hmin' : Hid (∀ j, j < s → ¬ x % pr n < pr (j + 1)) := fun j hj => by rw [← (hpr (j + 1)).out]; exact hmin.out j hj
  have hnx : Hid (pr (s + 1) = pr s + k) := by unfold Hid; rw [← (hpr (s + 1)).out, sumI_next hk.out, (hpr s).out]
  have hq0 : 0 ≤ x / pr n := Int.ediv_nonneg hx0 (by omega)
  have hq1 : x / pr n ≤ x := Int.ediv_le_self _ hx0
  have hm0 := Int.emod_nonneg x (show pr n ≠ 0 by omega)
  have hm1 := Int.emod_lt_of_pos x (show 0 < pr n by omega)
  have hqk0 : 0 ≤ x / pr n * k := Int.mul_nonneg hq0 hk1
  have hqk1 : x / pr n * k ≤ 1099511627776 * 16 := Int.mul_le_mul (by omega) hk16 hk1 (by omega)
  have hp0 : 0 ≤ pr s := by rw [← (hpr s).out]; exact (sumI_bd _ (by rw [List.all_eq_true]; intro y hy; exact List.all_eq_true.1 hall y (List.mem_of_mem_take hy))).1
  have ew1 : wrap64 (x / pr n * k) = x / pr n * k := IntWalk.wrap64_in _ (by omega)
  obtain ⟨ad, z, e, hb, hzx, hcz⟩ := h.int_at hsn
  subst e
  obtain rfl : z = k := by have := hzx.symm.trans hk.out; injection this
  have i1 : (0 : Int) ≤ (s : Int) := Int.natCast_nonneg s
  have i2 : (s : Int) < (n : Int) := Int.ofNat_lt.2 hsn
  have cst := fun (s' : Nat) (w' : World) (hr : Reads w' w.heap.size (some ad) n (vi .i64 l)) (hs' : s' ≤ n) => state_start (some ad) n c l s' (pr s') w' hr h8 hc hs' HALL (hpr s')
  clear hzx hTn hall
  go_enter Try.func17, Try.ntmps17
  go_wp2_with (first | (go_at_call 45; refine c1.mono ?_; clear c1; rintro e w' ⟨rfl, rfl⟩) | (go_at_call 46; refine (cst n _ h (Nat.le_refl _)).mono ?_; rintro e w' ⟨rfl, rfl⟩))
  go_loop [10] (fun i => ∃ j : Nat, j ≤ s ∧ i = .int .i64 j) (fun i => s - (intOf i).toNat)
  case atStart => exact ⟨0, by omega, rfl⟩
  case round =>
    obtain ⟨j, hj, rfl⟩ := hrel
    have e1 : ((j + 1 : Nat) : Int) = (j : Int) + 1 := by omega
    have cj := cst (j + 1) w h (by omega)
    rw [e1] at cj
    clear e1
    by_cases hlt : j < s
    · have hge : pr (j + 1) ≤ x % pr n := by have := hmin'.out j hlt; omega
      generalize pr (j + 1) = q at *
      go_wp2_with (go_at_call 46; refine cj.mono ?_; rintro e w' ⟨rfl, rfl⟩)
      go_round
      case rel => exact ⟨j + 1, by omega, by go_num⟩
      case measure => simp [intOf]; omega
    · obtain rfl : j = s := by omega
      have hlt2 : x % pr n < pr (j + 1) := by rw [hnx.out]; exact hs2.out
      have hle : pr j ≤ x % pr n := hs1.out
      generalize pr (j + 1) = q at *
      have cs := fun m => cst j (w.drewN m) (h.drewN m) (by omega)
      go_wp2_with (go_at_call 46; refine cj.mono ?_; rintro e w' ⟨rfl, rfl⟩)
      go_quiet ((go_at_call 46; exact quietR (cs _)))
      go_wp2
      go_ret3
      exact ⟨by rw [HY.out]; rfl, _, rfl⟩
theorem Own.capLe {w : World} {base n c : Nat} {E : TypeId} {A : Option Addr} {xs : List Value} (h : Own w base E (.slice A n c) xs) : n ≤ c := by
  have hl := h.len
  rcases h.2 with ⟨e, h0⟩ | ⟨g, cap, cur, e, hb, hh, hnc, hc2, hs, ht⟩
  · injection e with e1 e2 e3; omega
  · injection e with e1 e2 e3; omega
/-- how many of the first j numbers are s's -/
theorem own_count {p s j : Nat} (h : p ≤ j) : (j + 1 - p : Nat) = (j - p) + 1 := by omega
set_option maxHeartbeats 800000 in
theorem ref_Take (A : Option Addr) (n c : Nat) (l : List Int) (x : Int) (s : Nat) (k : Int) (w : World) (h : Reads w w.heap.size A n (vi .i64 l)) (hz : Hid (partsErr l x = 0)) (hk : Hid (l[s]? = some k))
    (hs1 : Hid (sumI (l.take s) ≤ x % sumI l)) (hs2 : Hid (x % sumI l < sumI (l.take s) + k)) :
    Calls Try.prog 19 #[.slice A n c, .int .i64 x] w (fun e w' => e = .returned (.tuple #[.int .i64 (takeY l x s k), .int .i64 (s : Int)]) ∧ Below w.heap.size w w') := by
  have H := Lib.hid h.int_len
  obtain ⟨h8, hall, hT1, hT16, hx0, hx1⟩ := partsErr_ok hz.out
  rw [H.out] at h8
  have hsn : s < n := by rw [← H.out]; exact (List.getElem?_eq_some_iff.1 hk.out).1
  have hin := List.all_eq_true.1 hall k (mem_at hk.out)
  simp only [inPart, Bool.and_eq_true, decide_eq_true_eq] at hin
  obtain ⟨hk1, hk16⟩ := hin
  have c1 := ref_Owners A n c l w h h8 hall
  obtain ⟨N, hN⟩ : ∃ N, (ownA 0 l).length = N := ⟨_, rfl⟩
  obtain ⟨p, hp⟩ : ∃ p, (ownA 0 (l.take s)).length = p := ⟨_, rfl⟩
  have hNT : sumI l = (N : Int) := by rw [← hN]; exact (ownA_len 0 l hall).symm
  have hpP : sumI (l.take s) = (p : Int) := by
    rw [← hp]; exact (ownA_len 0 _ (by rw [List.all_eq_true]; intro y hy; exact List.all_eq_true.1 hall y (List.mem_of_mem_take hy))).symm
  have HY : Hid (takeY l x s k = x / (N : Int) * k + (x % (N : Int)) - (p : Int)) := by unfold Hid takeY; rw [hNT, hpP]
  have hs1' := hs1.out
  have hs2' := hs2.out
  rw [hNT, hpP] at hs1' hs2'
  rw [hNT] at hT1 hT16
  obtain ⟨m, hm⟩ : ∃ m : Nat, x % (N : Int) = (m : Int) := ⟨(x % (N : Int)).toNat, by omega⟩
  rw [hm] at hs1' hs2' HY
  have hq0 : 0 ≤ x / (N : Int) := Int.ediv_nonneg hx0 (by omega)
  have hq1 : x / (N : Int) ≤ x := Int.ediv_le_self _ hx0
  have hqk0 : 0 ≤ x / (N : Int) * k := Int.mul_nonneg hq0 hk1
  have hqk1 : x / (N : Int) * k ≤ 1099511627776 * 16 := Int.mul_le_mul (by omega) hk16 hk1 (by omega)
  have ew1 : wrap64 (x / (N : Int) * k) = x / (N : Int) * k := IntWalk.wrap64_in _ (by omega)
  have hpm : p ≤ m := by omega
  have hmk : m < p + k.toNat := by omega
  have hI := Lib.hid (fun i (h1 : p ≤ i) (h2 : i < p + k.toNat) => own_in hk.out hp h1 h2)
  have hL := Lib.hid (fun i (h1 : i < p) => own_lt hk.out hp h1)
  have hmN : m < N := by have := Int.emod_lt_of_pos x (show 0 < (N : Int) by omega); omega
  have hsm := hI.out m hpm hmk
  obtain ⟨ad, z, e, hb, hzx, hcz0⟩ := h.int_at hsn
  subst e
  obtain rfl : z = k := by have := hzx.symm.trans hk.out; injection this
  have HN := Lib.hid hN
  have HSM := Lib.hid hsm
  have i1 : (0 : Int) ≤ (s : Int) := Int.natCast_nonneg s
  have i2 : (s : Int) < (n : Int) := Int.ofNat_lt.2 hsn
  have hN16 : N ≤ 16 := by omega
  clear hzx hN hp hNT hpP hsm hall
  go_enter Try.func19, Try.ntmps19
  go_wp2_with (go_at_call 47; refine c1.mono ?_; clear c1; rintro e w1 ⟨A1, n1, k1, rfl, ho1, hb1⟩; have hcz : w1.cell? (ad.add s) = some (.int .i64 z) := (hb1.cell (by rw [block_of_add]; exact hb)).trans hcz0; obtain rfl : n1 = N := (by rw [← ho1.len, List.length_map]; exact HN.out); obtain ⟨ad1, o, e1, hbo, hox, hoc⟩ := ho1.reads.int_at hmN; subst e1; obtain rfl : (s : Int) = o := (by have := HSM.out.symm.trans hox; injection this); clear hox; have hmcap : m ≤ k1 := (by have := ho1.capLe; omega))
  go_loop [10, 28] (fun q i => ∃ j : Nat, j ≤ m ∧ i = .int .i64 j ∧ q = .int .i64 ((j - p : Nat) : Int)) (fun _ i => m - (intOf i).toNat)
  case atStart => exact ⟨0, by omega, rfl, by simp⟩
  case round =>
    obtain ⟨j, hj, rfl, rfl⟩ := hrel
    by_cases hlt : j < m
    · obtain ⟨ad2, o, e2, hb2, ho, hco⟩ := ho1.reads.int_at (k := j) (by omega)
      injection e2 with e2
      subst e2
      by_cases hjp : j < p
      · obtain ⟨o2, h1, h2⟩ := hL.out j hjp
        obtain rfl : o2 = o := by have := h1.symm.trans ho; injection this
        have e1 : (o2 == (s : Int)) = false := by simpa using h2
        have hq : Hid ((j + 1 - p : Nat) = j - p) := by unfold Hid; omega
        clear h1 h2 ho
        go_wp2
        go_round
        case rel => exact ⟨j + 1, by omega, by go_num, by rw [hq.out]⟩
        case measure => simp [intOf]; omega
      · have h1 := hI.out j (by omega) (by omega)
        obtain rfl : (s : Int) = o := by have := h1.symm.trans ho; injection this
        have e1 : ((s : Int) == (s : Int)) = true := by simp
        have hq : Hid ((j + 1 - p : Nat) = (j - p) + 1) := by unfold Hid; omega
        have hd16 : j - p ≤ 16 := by omega
        clear h1 ho
        generalize j - p = d at *
        go_wp2
        go_round
        case rel => exact ⟨j + 1, by omega, by go_num, by rw [hq.out]; go_num⟩
        case measure => simp [intOf]; omega
    · obtain rfl : j = m := by omega
      have hq : ((j - p : Nat) : Int) = (j : Int) - p := by omega
      rw [hq]
      clear hq
      go_wp2
      go_quiet (fail)
      go_wp2
      go_ret2
      exact ⟨ret_ii (by rw [HY.out]; congr 1; omega), below_drewN hb1 _⟩
set_option maxHeartbeats 600000 in
theorem state_Take_err (A : Option Addr) (n c : Nat) (l : List Int) (x z : Int) (w : World) (h : Reads w w.heap.size A n (vi .i64 l)) (hz : Hid (partsErr l x = z)) (h0 : (z != 0) = true) :
    Calls Try.prog 17 #[.slice A n c, .int .i64 x] w (Ret w (.tuple #[.int .i64 0, .int .i64 0, .int .i64 z])) := by
  have c1 := state_wrong A n c l x z w h hz
  go_enter Try.func17, Try.ntmps17
  go_wp2_with (go_at_call 45; refine c1.mono ?_; rintro e w' ⟨rfl, rfl⟩)
  go_ret3
  exact ⟨rfl, rfl⟩
set_option maxHeartbeats 800000 in
theorem StateTakes_walk (A : Option Addr) (n c : Nat) (l : List Int) (x : Int) (w : World) (h : Reads w w.heap.size A n (vi .i64 l)) (_ : ∀ z ∈ l, (Lit.int .i64 z).wf = true) (_ : n * 8 ≤ reachBytes) (hc : n ≤ c) (_ : (Lit.int .i64 x).wf = true) :
    Calls Try.prog 4 #[.slice A n c, .int .i64 x] w (LawTrue w) := by
  by_cases h0 : partsErr l x = 0
  · obtain ⟨h8, hall, hT1, hT16, hx0, hx1⟩ := partsErr_ok h0
    have c2 := fun (w' : World) (hr : Reads w' w.heap.size A n (vi .i64 l)) => ref_PartsCheck A n c l x 0 w' hr h0
    obtain ⟨s, k, hk, g1, g2, g3⟩ := sym_exists (l := l) (q := x % sumI l) (Int.emod_lt_of_pos x (by omega)) (Int.emod_nonneg x (by omega))
    have c1 := state_Take A n c l x s k w h hc h0 hk g1 g2 g3
    have c3 := fun (w1 : World) (hb1 : Below w.heap.size w w1) => ref_Take A n c l x s k w1 ((h.below hb1).more hb1.size) h0 hk g1 g2
    clear h0 h8 hall hT1 hT16 hx0 hx1 hk g1 g2 g3
    generalize takeY l x s k = y at *
    go_enter Try.func4, Try.ntmps4
    go_wp2_with (first | (go_at_call 17; refine c1.mono ?_; rintro e w1 ⟨rfl, m1, rfl⟩) | (go_at_call 18; refine (c2 _ (h.drewN _)).mono ?_; rintro e w' ⟨rfl, rfl⟩) | (go_at_call 19; refine (c3 _ (below_drewN (Below.refl _ _) _)).mono ?_; rintro e w2 ⟨rfl, hb2⟩))
    go_ret
    exact ⟨rfl, (below_drewN (Below.refl _ _) _).trans hb2⟩
  · have hz : (partsErr l x != 0) = true := by simpa using h0
    have c1 := state_Take_err A n c l x (partsErr l x) w h rfl hz
    have c2 := ref_PartsCheck A n c l x (partsErr l x) w h rfl
    clear h0
    generalize partsErr l x = z at *
    go_enter Try.func4, Try.ntmps4
    go_wp2_with (first | (go_at_call 17; refine c1.mono ?_; rintro e w1 ⟨rfl, rfl⟩) | (go_at_call 18; refine c2.mono ?_; rintro e w' ⟨rfl, rfl⟩))
    go_ret
    exact .same _
end Go.Proofs.Ytijhcbnnopklaaa

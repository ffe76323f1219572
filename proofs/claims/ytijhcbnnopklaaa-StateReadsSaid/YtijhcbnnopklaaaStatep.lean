import Derived.Test.YtijhcbnnopklaaaStateo
set_option linter.unusedVariables false
namespace Go.Proofs.Ytijhcbnnopklaaa
open Go.RowKit

theorem partsErr_ok {l : List Int} {x : Int} (h : partsErr l x = 0) : l.length ≤ 8 ∧ l.all inPart = true ∧ 1 ≤ sumI l ∧ sumI l ≤ 16 ∧ 0 ≤ x ∧ x ≤ 1099511627776 := by
  unfold partsErr at h
  split at h
  · omega
  · split at h
    · rename_i h1 h2
      split at h
      · omega
      · exact ⟨by omega, h2, by omega, by omega, by omega, by omega⟩
    · omega
theorem quo_bd {x k T : Int} (hx0 : 0 ≤ x) (hx1 : x ≤ 1099511627776) (hk : 1 ≤ k) (hT0 : 0 ≤ T) (hT1 : T ≤ 16) :
    0 ≤ x / k ∧ x / k ≤ 1099511627776 ∧ 0 ≤ x % k ∧ x % k < k ∧ 0 ≤ x / k * T ∧ x / k * T ≤ 17592186044416 := by
  have h1 : 0 ≤ x / k := Int.ediv_nonneg hx0 (by omega)
  have h2 : x / k ≤ x := Int.ediv_le_self k hx0
  have h3 := Int.emod_nonneg x (show k ≠ 0 by omega)
  have h4 := Int.emod_lt_of_pos x (show 0 < k by omega)
  have h5 := Int.mul_nonneg h1 hT0
  have h6 : x / k * T ≤ 1099511627776 * 16 := Int.mul_le_mul (by omega) hT1 hT0 (by omega)
  exact ⟨h1, by omega, h3, h4, h5, by omega⟩
theorem sum_take_le (l : List Int) (s : Nat) (h : l.all inPart = true) : sumI (l.take s) ≤ sumI l := by
  have h1 : sumI l = sumI (l.take s) + sumI (l.drop s) := by rw [← sumI_append, List.take_append_drop]
  have h2 : (l.drop s).all inPart = true := by
    rw [List.all_eq_true]; intro x hx
    exact List.all_eq_true.1 h x (List.mem_of_mem_drop hx)
  have := sumI_bd _ h2
  omega

set_option maxHeartbeats 600000 in
theorem state_Put_err (A : Option Addr) (n c : Nat) (l : List Int) (x s z : Int) (w : World) (h : Reads w w.heap.size A n (vi .i64 l)) (hz : Hid (partsErr l x = z)) (h0 : (z != 0) = true) :
    Calls Try.prog 20 #[.slice A n c, .int .i64 x, .int .i64 s] w (Ret w (.tuple #[.int .i64 0, .int .i64 z])) := by
  have c1 := state_wrong A n c l x z w h hz
  go_enter Try.func20, Try.ntmps20
  go_wp2_with (go_at_call 45; refine c1.mono ?_; rintro e w' ⟨rfl, rfl⟩)
  go_ret2
  exact ⟨rfl, rfl⟩
set_option maxHeartbeats 600000 in
theorem state_Put_out (A : Option Addr) (n c : Nat) (l : List Int) (x s : Int) (w : World) (h : Reads w w.heap.size A n (vi .i64 l)) (hz : Hid (partsErr l x = 0)) (hs : s < 0 ∨ (n : Int) ≤ s) :
    Calls Try.prog 20 #[.slice A n c, .int .i64 x, .int .i64 s] w (Ret w (.tuple #[.int .i64 0, .int .i64 2])) := by
  have c1 := state_wrong A n c l x 0 w h hz
  by_cases hs0 : s < 0
  · clear hs
    go_enter Try.func20, Try.ntmps20
    go_wp2_with (go_at_call 45; refine c1.mono ?_; rintro e w' ⟨rfl, rfl⟩)
    go_ret2
    exact ⟨rfl, rfl⟩
  · have hs1 : (n : Int) ≤ s := by omega
    clear hs
    go_enter Try.func20, Try.ntmps20
    go_wp2_with (go_at_call 45; refine c1.mono ?_; rintro e w' ⟨rfl, rfl⟩)
    go_ret2
    exact ⟨rfl, rfl⟩

def putRes (y : Int) : Int × Int := if 1099511627776 < y then (0, 1) else (y, 0)
set_option maxHeartbeats 600000 in
theorem state_Put (A : Option Addr) (n c : Nat) (l : List Int) (x : Int) (s : Nat) (k a b : Int) (w : World) (h : Reads w w.heap.size A n (vi .i64 l)) (hc : n ≤ c) (hz : Hid (partsErr l x = 0)) (hk : Hid (l[s]? = some k)) (hk0 : k ≠ 0)
    (hr : Hid (putRes (x / k * sumI l + sumI (l.take s) + x % k) = (a, b))) :
    Calls Try.prog 20 #[.slice A n c, .int .i64 x, .int .i64 (s : Int)] w (RetQ w (.tuple #[.int .i64 a, .int .i64 b])) := by
  have H := Lib.hid h.int_len
  have c1 := state_wrong A n c l x 0 w h hz
  obtain ⟨h8, hall, hT1, hT16, hx0, hx1⟩ := partsErr_ok hz.out
  rw [H.out] at h8
  have hsn : s < n := by rw [← H.out]; exact (List.getElem?_eq_some_iff.1 hk.out).1
  have hsn' : s ≤ n := by omega
  have hin := List.all_eq_true.1 hall k (mem_at hk.out)
  simp only [inPart, Bool.and_eq_true, decide_eq_true_eq] at hin
  obtain ⟨hk1, hk16⟩ := hin
  have hk1' : 1 ≤ k := by omega
  have hP := sumI_bd (l.take s) (by rw [List.all_eq_true]; intro y hy; exact List.all_eq_true.1 hall y (List.mem_of_mem_take hy))
  have hP2 := sum_take_le l s hall
  obtain ⟨pr, hpr⟩ : ∃ pr : Nat → Int, ∀ s, Hid (sumI (l.take s) = pr s) := ⟨fun s => sumI (l.take s), fun _ => rfl⟩
  have hTn : sumI l = pr n := by rw [← (hpr n).out, List.take_of_length_le (Nat.le_of_eq H.out)]
  rw [(hpr s).out] at hP hP2 hr
  rw [hTn] at hT1 hT16 hP2 hr
  obtain ⟨hq0, hq1, hm0, hm1, hqT0, hqT1⟩ := quo_bd (T := pr n) hx0 hx1 hk1' (by omega) hT16
  have hP0 : 0 ≤ pr s := hP.1
  obtain ⟨ad, z, e, hb, hzx, hcz⟩ := h.int_at hsn
  subst e
  obtain rfl : z = k := by have := hzx.symm.trans hk.out; injection this
  have HALL := Lib.hid hall
  have t1 : x.tdiv z = x / z := Int.tdiv_eq_ediv_of_nonneg hx0
  have t2 : x.tmod z = x % z := Int.tmod_eq_emod_of_nonneg hx0
  have i1 : (0 : Int) ≤ (s : Int) := Int.natCast_nonneg s
  have i2 : (s : Int) < (n : Int) := Int.ofNat_lt.2 hsn
  have e1 : (z == 0) = false := by simpa using hk0
  have d1 : decide ((s : Int) < 0) = false := decide_eq_false (by omega)
  have d2 : decide ((n : Int) ≤ (s : Int)) = false := decide_eq_false (by omega)
  clear hzx hP hTn hall
  have hm1' : x % z ≤ 16 := by omega
  have ew1 : wrap64 (x / z * pr n) = x / z * pr n := IntWalk.wrap64_in _ (by omega)
  obtain ⟨qT, hqT⟩ : ∃ qT, x / z * pr n = qT := ⟨_, rfl⟩
  rw [hqT] at hqT0 hqT1 ew1 hr
  have ew1' : wrap64 (x / z * pr n) = qT := by rw [hqT]; exact ew1
  have hPn : pr s ≤ 16 := by omega
  clear hqT ew1
  have d3 : decide (n ≤ s) = false := decide_eq_false (by omega)
  by_cases hbig : 1099511627776 < qT + pr s + x % z
  · have HR : Hid ((a, b) = (0, 1)) := by unfold Hid; rw [← hr.out, putRes, if_pos hbig]
    clear hr
    go_enter Try.func20, Try.ntmps20
    go_wp2_with (go_at_call 45; refine c1.mono ?_; rintro e w' ⟨rfl, rfl⟩)
    go_quiet ((go_at_call 46; exact quietR (state_start _ n c l _ (pr _) _ (h.drewN _) h8 hc (by first | exact hsn' | exact Nat.le_refl _) HALL (hpr _))))
    go_wp2
    go_ret2
    exact ⟨ret_ii (by rw [HR.out]), _, rfl⟩
  · have HR : Hid ((a, b) = (qT + pr s + x % z, 0)) := by unfold Hid; rw [← hr.out, putRes, if_neg hbig]
    clear hr
    go_enter Try.func20, Try.ntmps20
    go_wp2_with (go_at_call 45; refine c1.mono ?_; rintro e w' ⟨rfl, rfl⟩)
    go_quiet ((go_at_call 46; exact quietR (state_start _ n c l _ (pr _) _ (h.drewN _) h8 hc (by first | exact hsn' | exact Nat.le_refl _) HALL (hpr _))))
    go_wp2
    go_ret2
    exact ⟨ret_ii (by rw [HR.out]), _, rfl⟩
end Go.Proofs.Ytijhcbnnopklaaa

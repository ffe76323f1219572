import Derived.Test.YtijhcbnnopklaaaOwn
import Derived.Test.YtijhcbnnopklaaaQuiet
import Derived.Test.YtijhcbnnopklaaaInts
set_option linter.unusedVariables false
namespace Go.Proofs.Ytijhcbnnopklaaa
open Go.RowKit

/-! ### plain words -/
def sumI : List Int → Int
  | [] => 0
  | z :: l => z + sumI l
theorem sumI_append (a b : List Int) : sumI (a ++ b) = sumI a + sumI b := by
  induction a with
  | nil => simp [sumI]
  | cons x a ih => simp only [List.cons_append, sumI, ih]; omega
theorem sumI_next {l : List Int} {k : Nat} {x : Int} (h : l[k]? = some x) : sumI (l.take (k + 1)) = sumI (l.take k) + x := by
  rw [take_next h, sumI_append]; simp [sumI]
def inPart (z : Int) : Bool := decide (0 ≤ z) && decide (z ≤ 16)
theorem sumI_bd (l : List Int) (h : l.all inPart = true) : 0 ≤ sumI l ∧ sumI l ≤ 16 * l.length := by
  induction l with
  | nil => simp [sumI]
  | cons z l ih =>
    rw [List.all_cons, Bool.and_eq_true] at h
    obtain ⟨h1, h2⟩ := h
    have := ih h2
    simp only [inPart, Bool.and_eq_true, decide_eq_true_eq] at h1
    simp only [sumI, List.length_cons]; omega
def partsErr (l : List Int) (x : Int) : Int :=
  if 8 < l.length then 1 else if l.all inPart then (if sumI l < 1 ∨ 16 < sumI l ∨ x < 0 ∨ 1099511627776 < x then 4 else 0) else 4
theorem all_next {l : List Int} {k : Nat} {x : Int} (h : l[k]? = some x) : (l.take (k + 1)).all inPart = ((l.take k).all inPart && inPart x) := by
  rw [take_next h, List.all_append]; simp

set_option maxHeartbeats 600000 in
theorem state_wrong (A : Option Addr) (n c : Nat) (l : List Int) (x b : Int) (w : World) {B : Nat} (h : Reads w B A n (vi .i64 l)) (hr : Hid (partsErr l x = b)) :
    Calls Try.prog 45 #[.slice A n c, .int .i64 x] w (Ret w (.int .i64 b)) := by
  have H := Lib.hid h.int_len
  by_cases h8 : 8 < n
  · have HB : Hid (b = 1) := by unfold Hid; rw [← hr.out, partsErr, H.out, if_pos h8]
    go_enter Try.func45, Try.ntmps45
    go_wp2
    go_ret
    exact ⟨ret_i HB.out.symm, rfl⟩
  · have HE : Hid ((if l.all inPart then (if sumI l < 1 ∨ 16 < sumI l ∨ x < 0 ∨ 1099511627776 < x then (4 : Int) else 0) else 4) = b) := by
      unfold Hid; rw [← hr.out, partsErr, H.out, if_neg h8]
    go_enter Try.func45, Try.ntmps45
    go_wp2
    go_loop [5, 13] (fun s i => ∃ k : Nat, k ≤ n ∧ i = .int .i64 k ∧ s = .int .i64 (sumI (l.take k)) ∧ Hid ((l.take k).all inPart = true)) (fun _ i => n - (intOf i).toNat)
    case atStart => exact ⟨0, by omega, rfl, by simp [sumI], by simp [Hid]⟩
    case round =>
      obtain ⟨k, hk, rfl, rfl, hall⟩ := hrel
      have hbd := sumI_bd _ hall.out
      have hlk : (l.take k).length ≤ k := List.length_take_le _ _
      have hb2 : 0 ≤ sumI (l.take k) ∧ sumI (l.take k) ≤ 16 * k := by omega
      clear hbd hlk
      by_cases hlt : k < n
      · obtain ⟨ad, z, rfl, hb, hx, hc⟩ := h.int_at hlt
        have HX := Lib.hid (sumI_next hx)
        have HA := Lib.hid (all_next hx)
        have HM : Hid (inPart z = false → l.all inPart = false) := fun h0 => by
          rw [List.all_eq_false]; exact ⟨z, mem_at hx, by simp [h0]⟩
        clear hx
        generalize sumI (l.take k) = q at *
        by_cases h0 : z < 0
        · have HB : Hid (b = 4) := by
            have := HM.out (by simp [inPart]; omega)
            unfold Hid; rw [← HE.out, this]; rfl
          go_wp2
          go_ret
          exact ⟨ret_i HB.out.symm, rfl⟩
        · by_cases h16 : 16 < z
          · have HB : Hid (b = 4) := by
              have := HM.out (by simp [inPart]; omega)
              unfold Hid; rw [← HE.out, this]; rfl
            go_wp2
            go_ret
            exact ⟨ret_i HB.out.symm, rfl⟩
          · have HA' : Hid ((l.take (k + 1)).all inPart = true) := by
              unfold Hid; rw [HA.out, hall.out, Bool.true_and]; simp [inPart]; omega
            go_wp2
            go_round
            case rel => exact ⟨k + 1, by omega, by go_num, by rw [HX.out], HA'⟩
            case measure => simp [intOf]; omega
      · obtain rfl : k = n := by omega
        have ht := List.take_of_length_le (Nat.le_of_eq H.out)
        have HE2 : Hid ((if sumI l < 1 ∨ 16 < sumI l ∨ x < 0 ∨ 1099511627776 < x then (4 : Int) else 0) = b) := by
          have := hall.out; rw [ht] at this
          unfold Hid; rw [← HE.out, if_pos this]
        rw [ht] at hb2 ⊢
        clear ht
        generalize sumI l = q at *
        by_cases h1 : q < 1 ∨ 16 < q ∨ x < 0 ∨ 1099511627776 < x
        · have HB : Hid (b = 4) := by unfold Hid; rw [← HE2.out, if_pos h1]
          by_cases g1 : q < 1
          · clear h1
            go_wp2
            go_ret
            exact ⟨ret_i HB.out.symm, rfl⟩
          · by_cases g2 : 16 < q
            · clear h1
              go_wp2
              go_ret
              exact ⟨ret_i HB.out.symm, rfl⟩
            · by_cases g3 : x < 0
              · clear h1
                go_wp2
                go_ret
                exact ⟨ret_i HB.out.symm, rfl⟩
              · have g4 : 1099511627776 < x := by omega
                clear h1
                go_wp2
                go_ret
                exact ⟨ret_i HB.out.symm, rfl⟩
        · have HB : Hid (b = 0) := by unfold Hid; rw [← HE2.out, if_neg h1]
          have g1 : ¬ q < 1 := by omega
          have g2 : ¬ 16 < q := by omega
          have g3 : ¬ x < 0 := by omega
          have g4 : ¬ 1099511627776 < x := by omega
          clear h1
          go_wp2
          go_ret
          exact ⟨ret_i HB.out.symm, rfl⟩
set_option maxHeartbeats 600000 in
theorem ref_PartsCheck (A : Option Addr) (n c : Nat) (l : List Int) (x b : Int) (w : World) {B : Nat} (h : Reads w B A n (vi .i64 l)) (hr : Hid (partsErr l x = b)) :
    Calls Try.prog 18 #[.slice A n c, .int .i64 x] w (Ret w (.int .i64 b)) := by
  have H := Lib.hid h.int_len
  by_cases h8 : 8 < n
  · have HB : Hid (b = 1) := by unfold Hid; rw [← hr.out, partsErr, H.out, if_pos h8]
    go_enter Try.func18, Try.ntmps18
    go_wp2
    go_ret
    exact ⟨ret_i HB.out.symm, rfl⟩
  · have HE : Hid ((if l.all inPart then (if sumI l < 1 ∨ 16 < sumI l ∨ x < 0 ∨ 1099511627776 < x then (4 : Int) else 0) else 4) = b) := by
      unfold Hid; rw [← hr.out, partsErr, H.out, if_neg h8]
    go_enter Try.func18, Try.ntmps18
    go_wp2
    go_loop [5, 13] (fun s i => ∃ k : Nat, k ≤ n ∧ i = .int .i64 k ∧ s = .int .i64 (sumI (l.take k)) ∧ Hid ((l.take k).all inPart = true)) (fun _ i => n - (intOf i).toNat)
    case atStart => exact ⟨0, by omega, rfl, by simp [sumI], by simp [Hid]⟩
    case round =>
      obtain ⟨k, hk, rfl, rfl, hall⟩ := hrel
      have hbd := sumI_bd _ hall.out
      have hlk : (l.take k).length ≤ k := List.length_take_le _ _
      have hb2 : 0 ≤ sumI (l.take k) ∧ sumI (l.take k) ≤ 16 * k := by omega
      clear hbd hlk
      by_cases hlt : k < n
      · obtain ⟨ad, z, rfl, hb, hx, hc⟩ := h.int_at hlt
        have HX := Lib.hid (sumI_next hx)
        have HA := Lib.hid (all_next hx)
        have HM : Hid (inPart z = false → l.all inPart = false) := fun h0 => by
          rw [List.all_eq_false]; exact ⟨z, mem_at hx, by simp [h0]⟩
        clear hx
        generalize sumI (l.take k) = q at *
        by_cases h0 : z < 0
        · have HB : Hid (b = 4) := by
            have := HM.out (by simp [inPart]; omega)
            unfold Hid; rw [← HE.out, this]; rfl
          go_wp2
          go_ret
          exact ⟨ret_i HB.out.symm, rfl⟩
        · by_cases h16 : 16 < z
          · have HB : Hid (b = 4) := by
              have := HM.out (by simp [inPart]; omega)
              unfold Hid; rw [← HE.out, this]; rfl
            go_wp2
            go_ret
            exact ⟨ret_i HB.out.symm, rfl⟩
          · have HA' : Hid ((l.take (k + 1)).all inPart = true) := by
              unfold Hid; rw [HA.out, hall.out, Bool.true_and]; simp [inPart]; omega
            go_wp2
            go_round
            case rel => exact ⟨k + 1, by omega, by go_num, by rw [HX.out], HA'⟩
            case measure => simp [intOf]; omega
      · obtain rfl : k = n := by omega
        have ht := List.take_of_length_le (Nat.le_of_eq H.out)
        have HE2 : Hid ((if sumI l < 1 ∨ 16 < sumI l ∨ x < 0 ∨ 1099511627776 < x then (4 : Int) else 0) = b) := by
          have := hall.out; rw [ht] at this
          unfold Hid; rw [← HE.out, if_pos this]
        rw [ht] at hb2 ⊢
        clear ht
        generalize sumI l = q at *
        by_cases h1 : q < 1 ∨ 16 < q ∨ x < 0 ∨ 1099511627776 < x
        · have HB : Hid (b = 4) := by unfold Hid; rw [← HE2.out, if_pos h1]
          by_cases g1 : q < 1
          · clear h1
            go_wp2
            go_ret
            exact ⟨ret_i HB.out.symm, rfl⟩
          · by_cases g2 : 16 < q
            · clear h1
              go_wp2
              go_ret
              exact ⟨ret_i HB.out.symm, rfl⟩
            · by_cases g3 : x < 0
              · clear h1
                go_wp2
                go_ret
                exact ⟨ret_i HB.out.symm, rfl⟩
              · have g4 : 1099511627776 < x := by omega
                clear h1
                go_wp2
                go_ret
                exact ⟨ret_i HB.out.symm, rfl⟩
        · have HB : Hid (b = 0) := by unfold Hid; rw [← HE2.out, if_neg h1]
          have g1 : ¬ q < 1 := by omega
          have g2 : ¬ 16 < q := by omega
          have g3 : ¬ x < 0 := by omega
          have g4 : ¬ 1099511627776 < x := by omega
          clear h1
          go_wp2
          go_ret
          exact ⟨ret_i HB.out.symm, rfl⟩
theorem Reads.takeI {w : World} {B n k : Nat} {A : Option Addr} {l : List Int} (h : Reads w B A n (vi .i64 l)) (hk : k ≤ n) : Reads w B A k (vi .i64 (l.take k)) := by
  have := h.take hk
  rwa [← List.map_take] at this

set_option maxHeartbeats 400000 in
theorem state_start (A : Option Addr) (n c : Nat) (l : List Int) (s : Nat) (b : Int) (w : World) {B : Nat} (h : Reads w B A n (vi .i64 l)) (hn : n ≤ 8) (hc : n ≤ c) (hs : s ≤ n) (hall : Hid (l.all inPart = true)) (hr : Hid (sumI (l.take s) = b)) :
    Calls Try.prog 46 #[.slice A n c, .int .i64 (s : Int)] w (Ret w (.int .i64 b)) := by
  have hsc : s ≤ c := by omega
  have h2 := h.takeI hs
  have H2 := Lib.hid h2.int_len
  have hall2 : Hid (∀ k, ((l.take s).take k).all inPart = true) := fun k => by
    rw [List.all_eq_true]
    intro x hx
    exact List.all_eq_true.1 hall.out x (List.mem_of_mem_take (List.mem_of_mem_take hx))
  rcases A with _ | ad
  · have hn0 : n = 0 := by
      rcases Nat.eq_zero_or_pos n with h0 | h0
      · exact h0
      · obtain ⟨ad, e, _⟩ := h.cells h0; cases e
    have hs0 : s = 0 := by omega
    subst hs0
    have HB : Hid (b = 0) := by unfold Hid; rw [← hr.out]; simp [sumI]
    clear hn0
    go_enter Try.func46, Try.ntmps46
    go_wp2
    go_loop [5, 12] (fun q i => q = .int .i64 0 ∧ i = .int .i64 0) (fun _ i => 0)
    case atStart => exact ⟨rfl, rfl⟩
    case round =>
      obtain ⟨rfl, rfl⟩ := hrel
      go_wp2
      go_ret
      exact ⟨ret_i HB.out.symm, rfl⟩
  · go_enter Try.func46, Try.ntmps46
    go_wp2
    go_loop [5, 12] (fun q i => ∃ k : Nat, k ≤ s ∧ i = .int .i64 k ∧ q = .int .i64 (sumI ((l.take s).take k))) (fun _ i => s - (intOf i).toNat)
    case atStart => exact ⟨0, by omega, rfl, by simp [sumI]⟩
    case round =>
      obtain ⟨k, hk, rfl, rfl⟩ := hrel
      have hbd := sumI_bd _ (hall2.out k)
      have hlk : ((l.take s).take k).length ≤ k := List.length_take_le _ _
      have hb2 : 0 ≤ sumI ((l.take s).take k) ∧ sumI ((l.take s).take k) ≤ 16 * k := by omega
      clear hbd hlk
      by_cases hlt : k < s
      · obtain ⟨ad2, z, e, hb, hx, hcx⟩ := h2.int_at hlt
        injection e with e
        subst e
        have HX := Lib.hid (sumI_next hx)
        have hz := List.all_eq_true.1 hall.out z (List.mem_of_mem_take (mem_at hx))
        simp only [inPart, Bool.and_eq_true, decide_eq_true_eq] at hz
        obtain ⟨hz1, hz2⟩ := hz
        clear hx
        generalize sumI ((l.take s).take k) = q at *
        go_wp2
        go_round
        case rel => exact ⟨k + 1, by omega, by go_num, by rw [HX.out]⟩
        case measure => simp [intOf]; omega
      · obtain rfl : k = s := by omega
        have ht : sumI ((l.take k).take k) = b := by rw [List.take_of_length_le (Nat.le_of_eq H2.out)]; exact hr.out
        rw [ht] at hb2 ⊢
        clear ht
        go_wp2
        go_ret
        exact ⟨rfl, rfl⟩
end Go.Proofs.Ytijhcbnnopklaaa

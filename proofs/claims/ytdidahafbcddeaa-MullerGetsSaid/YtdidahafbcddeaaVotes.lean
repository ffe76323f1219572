/-
  quipuref.votes walked.
-/
import Derived.Test.YtdidahafbcddeaaVotew
import Derived.Test.YtdidahafbcddeaaBit64
set_option linter.unusedVariables false
namespace Go.Proofs.Ytdidahafbcddeaa
open Go.RowKit

theorem and_16 : ∀ x p : Fin 16, bits .and .i64 (x.val : Int) (p.val : Int) = ((x.val &&& p.val : Nat) : Int) := by decide +kernel
theorem ksV_snoc (p k : Nat) : ksV p (k + 1) = ksV p k ++ if k &&& p = 0 then [(k : Int)] else [] := by
  unfold ksV
  rw [List.range_succ, List.filter_append, List.map_append]
  congr 1
  by_cases h : k &&& p = 0
  · simp [h]
  · simp [h]
set_option maxHeartbeats 1600000 in
theorem ref_votes (A : Option Addr) (n c m p : Nat) (l : List Bool) (w : World) {B : Nat} (h : Reads w B A n (vb l)) (hn : Hid (2 ^ m = n)) (hm : m ≤ 4) (hp : p < 16) (yes all : Nat) (hy : Hid ((ksV p n).countP (parV l p n) = yes)) (ha : Hid ((ksV p n).length = all)) :
    Calls Try.prog 30 #[.int .i64 (m : Int), .slice A n c, .int .i64 (p : Int)] w (Ret w (.tuple #[.int .i64 (yes : Int), .int .i64 (all : Int)])) := by
  have ew := wrap_pow m (by omega)
  rw [hn.out] at ew
  have hn16 : n ≤ 16 := by
    rw [← hn.out]
    exact Nat.pow_le_pow_right (n := 2) (by omega) hm
  go_enter Try.func30, Try.ntmps30
  go_wp2
  go_loop [8, 9, 10] (fun yv av ov => ∃ o : Nat, o ≤ n ∧ ov = .int .i64 (o : Int) ∧ yv = .int .i64 (((ksV p o).countP (parV l p n) : Nat) : Int) ∧ av = .int .i64 ((ksV p o).length : Int)) (fun _ _ ov => n - (intOf ov).toNat)
  case atStart => exact ⟨0, by omega, rfl, rfl, rfl⟩
  case round =>
    obtain ⟨o, ho, rfl, rfl, rfl⟩ := hrel
    have hc1 : (ksV p o).countP (parV l p n) ≤ (ksV p o).length := List.countP_le_length
    have hc2 := ksV_len p o
    by_cases hlt : o < n
    · have i1 : (o : Int) < (n : Int) := by omega
      have hsn := ksV_snoc p o
      have eA := and_16 ⟨o, by omega⟩ ⟨p, hp⟩
      simp only at eA
      by_cases hz : o &&& p = 0
      · rw [if_pos hz] at hsn
        rw [hz] at eA
        have HL : Hid ((ksV p (o + 1)).length = (ksV p o).length + 1) := by unfold Hid; rw [hsn]; simp
        have HC : Hid ((ksV p (o + 1)).countP (parV l p n) = (ksV p o).countP (parV l p n) + if parV l p n (o : Int) then 1 else 0) := by unfold Hid; rw [hsn, List.countP_append, List.countP_singleton]
        obtain ⟨y0, hy0⟩ : ∃ y0, (ksV p o).countP (parV l p n) = y0 := ⟨_, rfl⟩
        obtain ⟨a0, ha0⟩ : ∃ a0, (ksV p o).length = a0 := ⟨_, rfl⟩
        rw [hy0] at HC hc1 ⊢
        rw [ha0] at HL hc1 hc2 ⊢
        clear hsn hz hy0 ha0
        go_wp2
        go_loop [11, 12] (fun bv xv => ∃ k : Nat, k ≤ n ∧ xv = .int .i64 (k : Int) ∧ bv = .bool (parV l p k (o : Int))) (fun _ xv => n - (intOf xv).toNat)
        case atStart => exact ⟨0, by omega, rfl, rfl⟩
        case round =>
          obtain ⟨k, hk, rfl, rfl⟩ := hrel
          by_cases hlt2 : k < n
          · have i2 : (k : Int) < (n : Int) := by omega
            obtain ⟨ad, x, rfl, hadb, hx, hcx⟩ := h.bool_at hlt2
            have eB := and_16 ⟨k, by omega⟩ ⟨p, hp⟩
            simp only at eB
            have hle : k &&& p ≤ k := Nat.and_le_left
            obtain ⟨q, hq⟩ : ∃ q, keyU p k = q := ⟨_, rfl⟩
            have eQ : (k : Int) - ((k &&& p : Nat) : Int) = (q : Int) := by rw [← hq]; unfold keyU; omega
            obtain ⟨a2, ha2⟩ : ∃ a2, k &&& p = a2 := ⟨_, rfl⟩
            rw [ha2] at eB eQ hle
            have hqk : q ≤ k := by rw [← hq]; exact keyU_le _ _
            have HN : Hid (parV l p (k + 1) (o : Int) = if (o : Int) = (q : Int) then parV l p k (o : Int) != x else parV l p k (o : Int)) := by unfold Hid; rw [parV, hq, List.getD_eq_getElem?_getD, hx]; rfl
            have k0 : (0 : Int) ≤ (k : Int) := by omega
            obtain ⟨z, hz⟩ : ∃ z, parV l p k (o : Int) = z := ⟨_, rfl⟩
            rw [hz] at HN ⊢
            clear hx hq ha2 hz
            by_cases hoq : (o : Int) = (q : Int)
            · have t1 : ((q : Int) == (o : Int)) = true := by rw [hoq]; simp
              rw [if_pos hoq] at HN
              clear hoq
              cases x
              · go_wp2
                go_round
                case rel => exact ⟨k + 1, by omega, by go_num, by rw [HN.out]; simp⟩
                case measure => simp [intOf] <;> omega
              · go_wp2
                go_round
                case rel => exact ⟨k + 1, by omega, by go_num, by rw [HN.out]; simp⟩
                case measure => simp [intOf] <;> omega
            · have t1 : ((q : Int) == (o : Int)) = false := by simp; omega
              rw [if_neg hoq] at HN
              clear hoq
              go_wp2
              go_round
              case rel => exact ⟨k + 1, by omega, by go_num, by rw [HN.out]⟩
              case measure => simp [intOf] <;> omega
          · obtain rfl : n = k := by omega
            obtain ⟨z, hz⟩ : ∃ z, parV l p n (o : Int) = z := ⟨_, rfl⟩
            rw [hz] at HC ⊢
            clear hz
            cases z
            · go_wp2
              go_round
              case rel => exact ⟨o + 1, by omega, by go_num, by rw [HC.out]; simp, by rw [HL.out]; go_num⟩
              case measure => simp [intOf] <;> omega
            · go_wp2
              go_round
              case rel => exact ⟨o + 1, by omega, by go_num, by rw [HC.out]; go_num, by rw [HL.out]; go_num⟩
              case measure => simp [intOf] <;> omega
      · rw [if_neg hz, List.append_nil] at hsn
        have hz2 : o &&& p ≠ 0 := hz
        obtain ⟨a2, ha2⟩ : ∃ a2, o &&& p = a2 := ⟨_, rfl⟩
        rw [ha2] at eA hz2
        have t0 : ((a2 : Int) != 0) = true := by simp; omega
        have HSN := Lib.hid hsn
        clear hsn hz ha2 hz2
        go_wp2
        go_round
        case rel => exact ⟨o + 1, by omega, by go_num, by rw [HSN.out], by rw [HSN.out]⟩
        case measure => simp [intOf] <;> omega
    · obtain rfl : n = o := by omega
      go_wp2
      go_ret2
      exact ⟨ret_ii (by rw [hy.out, ha.out]), rfl⟩
end Go.Proofs.Ytdidahafbcddeaa

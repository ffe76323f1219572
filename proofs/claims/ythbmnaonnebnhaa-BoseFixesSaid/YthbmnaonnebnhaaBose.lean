/-
  bose.sums, quipuref.Differ, quipuref.Boses, bose.Fix.
-/
import Derived.Test.YthbmnaonnebnhaaBosel
import Derived.Test.YthbmnaonnebnhaaRestl
import Derived.Test.YthbmnaonnebnhaaField
set_option linter.unusedVariables false
namespace Go.Proofs.Ythbmnaonnebnhaa
open Go.RowKit

set_option maxHeartbeats 800000 in
theorem bose_sums_any (A : Option Addr) (c : Nat) (l : List Bool) (w : World) {B : Nat} (h : Reads w B A 15 (vb l)) :
    Calls Try.prog 45 #[.slice A 15 c] w (Ret w (.tuple #[.int .i64 (smA l : Int), .int .i64 (smB l : Int)])) := by
  obtain ⟨N, hN⟩ : ∃ N, N = 15 := ⟨_, rfl⟩
  rw [← hN] at h ⊢
  have hN1 : N ≤ 15 := by omega
  clear hN
  have H := Lib.hid h.bool_len
  go_enter Try.func45, Try.ntmps45
  go_wp2
  go_loop [4, 5, 11] (fun a b i => ∃ k p q : Nat, k ≤ N ∧ i = .int .i64 k ∧ a = .int .i64 p ∧ b = .int .i64 q ∧ p < 16 ∧ q < 16 ∧ Hid (sG fA (l.take k) 0 = p ∧ sG fB (l.take k) 0 = q)) (fun _ _ i => N - (intOf i).toNat)
  case atStart => exact ⟨0, 0, 0, by omega, rfl, rfl, rfl, by omega, by omega, by simp [Hid, sG]⟩
  case round =>
    obtain ⟨k, p, q, hk, rfl, rfl, rfl, hp, hq, hs⟩ := hrel
    by_cases hlt : k < N
    · obtain ⟨ad, x, rfl, _, hx, hc⟩ := h.bool_at hlt
      have HA := Lib.hid (sG_next fA hx)
      have HB := Lib.hid (sG_next fB hx)
      clear hx
      cases x with
      | false =>
        have HS : Hid (sG fA (l.take (k + 1)) 0 = p ∧ sG fB (l.take (k + 1)) 0 = q) := by
          refine ⟨?_, ?_⟩
          · rw [HA.out, hs.out.1]; simp
          · rw [HB.out, hs.out.2]; simp
        clear hs
        go_wp2
        go_round
        case rel => exact ⟨k + 1, p, q, by omega, by go_num, rfl, rfl, hp, hq, HS⟩
        case measure => simp [intOf]; omega
      | true =>
        have HS : Hid (sG fA (l.take (k + 1)) 0 = p ^^^ fA k ∧ sG fB (l.take (k + 1)) 0 = q ^^^ fB k) := by
          refine ⟨?_, ?_⟩
          · rw [HA.out, hs.out.1]; rfl
          · rw [HB.out, hs.out.2]; rfl
        have c1 := field_Power 2 (14 - k) w (by omega) (by omega)
        have c2 := field_Power 2 (3 * (14 - k)) w (by omega) (by omega)
        have ha := fA_lt k
        have hb := fB_lt k
        have e1 := i64_xor_nat p (fA k) (by omega) (by omega)
        have e2 := i64_xor_nat q (fB k) (by omega) (by omega)
        have h1 := xor_lt16 hp ha
        have h2 := xor_lt16 hq hb
        rw [show ((14 - k : Nat) : Int) = 14 - (k : Int) by omega, show gp 2 (14 - k) = fA k from rfl] at c1
        rw [show ((3 * (14 - k) : Nat) : Int) = 3 * (14 - (k : Int)) by omega, show gp 2 (3 * (14 - k)) = fB k from rfl] at c2
        clear hs HA HB
        generalize fA k = x at *
        generalize fB k = y at *
        go_wp2_with (first | (go_at_call 43; refine c1.mono ?_; clear c1; rintro e w' ⟨rfl, rfl⟩) | (go_at_call 43; refine c2.mono ?_; clear c2; rintro e w' ⟨rfl, rfl⟩))
        go_round
        case rel => exact ⟨k + 1, p ^^^ x, q ^^^ y, by omega, by go_num, by rw [← e1], by rw [← e2], h1, h2, HS⟩
        case measure => simp [intOf]; omega
    · obtain rfl : k = N := by omega
      go_wp2
      go_ret2
      have ht := List.take_of_length_le (Nat.le_of_eq H.out)
      have := hs.out
      rw [ht] at this
      exact ⟨by unfold smA smB; rw [this.1, this.2]; rfl, rfl⟩

theorem dif_next {a b : List Bool} {k : Nat} {x y : Bool} (hx : a[k]? = some x) (hy : b[k]? = some y) : difL (a.take (k + 1)) (b.take (k + 1)) = difL (a.take k) (b.take k) + if (x != y) = true then 1 else 0 := by
  have h1 := (List.getElem?_eq_some_iff.1 hx).1
  have h2 := (List.getElem?_eq_some_iff.1 hy).1
  rw [take_next hx, take_next hy]
  unfold difL
  rw [xorL_append (by simp; omega), onesL_append]
  rfl
set_option maxHeartbeats 800000 in
theorem ref_Differ (A A' : Option Addr) (n c c' : Nat) (l l' : List Bool) (d : Nat) (w : World) {B B' : Nat} (h : Reads w B A n (vb l)) (h' : Reads w B' A' n (vb l')) (hn : n ≤ 1000) (hr : Hid (difL l l' = d)) :
    Calls Try.prog 47 #[.slice A n c, .slice A' n c'] w (RetQ w (.int .i64 (d : Int))) := by
  have H := Lib.hid h.bool_len
  have H' := Lib.hid h'.bool_len
  go_enter Try.func47, Try.ntmps47
  go_wp2
  go_loopw [5, 6] (fun d i wr => ∃ k m q : Nat, k ≤ n ∧ i = .int .i64 k ∧ d = .int .i64 q ∧ q ≤ k ∧ wr = w.drewN m ∧ Hid (difL (l.take k) (l'.take k) = q)) (fun _ i _ => n - (intOf i).toNat)
  case atStart => exact ⟨0, 0, 0, by omega, rfl, rfl, by omega, rfl, rfl⟩
  case round =>
    obtain ⟨k, m, q, hk, rfl, rfl, hq, rfl, hs⟩ := hrel
    by_cases hlt : k < n
    · obtain ⟨ad, x, rfl, _, hx, hc⟩ := h.bool_at hlt
      obtain ⟨ad', y, rfl, _, hy, hc'⟩ := h'.bool_at hlt
      have HD := Lib.hid (dif_next hx hy)
      have i1 : (0 : Int) ≤ (k : Int) := by omega
      have i2 : (k : Int) < (n : Int) := by omega
      clear hx hy
      by_cases hxy : (x != y) = true
      · have HS : Hid (difL (l.take (k + 1)) (l'.take (k + 1)) = q + 1) := by unfold Hid; rw [HD.out, hs.out, if_pos hxy]
        obtain rfl : y = !x := by cases x <;> cases y <;> simp_all
        clear hxy
        cases x
        all_goals
          go_wp2
          go_quiet (fail)
          go_wp2
          go_roundw
          case rel => exact ⟨k + 1, m + nq, q + 1, by omega, by go_num, by go_num, by omega, by first | rfl | rw [World.drewN_drewN], HS⟩
          case measure => simp [intOf]; omega
      · have HS : Hid (difL (l.take (k + 1)) (l'.take (k + 1)) = q) := by unfold Hid; rw [HD.out, hs.out, if_neg hxy]; rfl
        obtain rfl : y = x := by cases x <;> cases y <;> simp_all
        have hf : (y != y) = false := by simp
        clear hxy
        go_wp2
        go_quiet (fail)
        go_wp2
        go_roundw
        case rel => exact ⟨k + 1, m + nq, q, by omega, by go_num, rfl, by omega, by first | rfl | rw [World.drewN_drewN], HS⟩
        case measure => simp [intOf]; omega
    · obtain rfl : k = n := by omega
      go_wp2
      go_ret
      refine ⟨ret_i ?_, m, rfl⟩
      have h1 := hs.out
      rw [List.take_of_length_le (Nat.le_of_eq H.out), List.take_of_length_le (Nat.le_of_eq H'.out), hr.out] at h1
      rw [h1]
end Go.Proofs.Ythbmnaonnebnhaa

/-
  bose.sums, quipuref.Differ, quipuref.Boses, bose.Fix.
-/
import Derived.Test.YtpbffbhebdcpbaaBosel
import Derived.Test.YtpbffbhebdcpbaaRestl
import Derived.Test.YtpbffbhebdcpbaaField
set_option linter.unusedVariables false
namespace Go.Proofs.Ytpbffbhebdcpbaa
open Go.RowKit

theorem dif_next {a b : List Bool} {k : Nat} {x y : Bool} (hx : a[k]? = some x) (hy : b[k]? = some y) : difL (a.take (k + 1)) (b.take (k + 1)) = difL (a.take k) (b.take k) + if (x != y) = true then 1 else 0 := by
  have h1 := (List.getElem?_eq_some_iff.1 hx).1
  have h2 := (List.getElem?_eq_some_iff.1 hy).1
  rw [take_next hx, take_next hy]
  unfold difL
  rw [xorL_append (by simp; omega), onesL_append]
  rfl
set_option maxHeartbeats 800000 in
theorem ref_Differ (A A' : Option Addr) (n c c' : Nat) (l l' : List Bool) (d : Nat) (w : World) {B B' : Nat} (h : Reads w B A n (vb l)) (h' : Reads w B' A' n (vb l')) (hn : n ≤ 1000) (hr : Hid (difL l l' = d)) :
    Calls Try.prog 24 #[.slice A n c, .slice A' n c'] w (RetQ w (.int .i64 (d : Int))) := by
  have H := Lib.hid h.bool_len
  have H' := Lib.hid h'.bool_len
  go_enter Try.func24, Try.ntmps24
  go_wp2
  go_loopw [5, 6] (fun d i wr => ∃ k m q : Nat, k ≤ n ∧ i = .int .i64 k ∧ d = .int .i64 q ∧ q ≤ k ∧ wr = w.drewN m ∧ Hid (difL (l.take k) (l'.take k) = q)) (fun _ i _ => n - (intOf i).toNat)
  case atStart => exact ⟨0, 0, 0, by omega, rfl, rfl, by omega, rfl, rfl⟩
  case round =>
    obtain ⟨k, m, q, hk, rfl, rfl, hq, rfl, hs⟩ := hrel
    by_cases hlt : k < n
    · obtain ⟨ad, x, rfl, _, hx, hc⟩ := h.bool_at hlt
      obtain ⟨ad', y, rfl, _, hy, hc'⟩ := h'.bool_at hlt
      have HD := Lib.hid (dif_next hx hy)
      have i1 : (0 : Int) ≤ (k : Int) := by omega
      have i2 : (k : Int) < (n : Int) := by omega
      clear hx hy
      by_cases hxy : (x != y) = true
      · have HS : Hid (difL (l.take (k + 1)) (l'.take (k + 1)) = q + 1) := by unfold Hid; rw [HD.out, hs.out, if_pos hxy]
        obtain rfl : y = !x := by cases x <;> cases y <;> simp_all
        clear hxy
        cases x
        all_goals
          go_wp2
          go_quiet (fail)
          go_wp2
          go_roundw
          case rel => exact ⟨k + 1, m + nq, q + 1, by omega, by go_num, by go_num, by omega, by first | rfl | rw [World.drewN_drewN], HS⟩
          case measure => simp [intOf]; omega
      · have HS : Hid (difL (l.take (k + 1)) (l'.take (k + 1)) = q) := by unfold Hid; rw [HD.out, hs.out, if_neg hxy]; rfl
        obtain rfl : y = x := by cases x <;> cases y <;> simp_all
        have hf : (y != y) = false := by simp
        clear hxy
        go_wp2
        go_quiet (fail)
        go_wp2
        go_roundw
        case rel => exact ⟨k + 1, m + nq, q, by omega, by go_num, rfl, by omega, by first | rfl | rw [World.drewN_drewN], HS⟩
        case measure => simp [intOf]; omega
    · obtain rfl : k = n := by omega
      go_wp2
      go_ret
      refine ⟨ret_i ?_, m, rfl⟩
      have h1 := hs.out
      rw [List.take_of_length_le (Nat.le_of_eq H.out), List.take_of_length_le (Nat.le_of_eq H'.out), hr.out] at h1
      rw [h1]
end Go.Proofs.Ytpbffbhebdcpbaa

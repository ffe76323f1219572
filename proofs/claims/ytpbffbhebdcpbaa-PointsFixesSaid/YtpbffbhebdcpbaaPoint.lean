import Derived.Test.YtpbffbhebdcpbaaBack
import Derived.Test.YtpbffbhebdcpbaaGuard
set_option linter.unusedVariables false
namespace Go.Proofs.Ytpbffbhebdcpbaa
open Go.RowKit

theorem el_intP : Elem Try.prog 35 3 (.int .i64 0) 8 := Elem.mk' Try.underlying35 (by kernel_rfl) rfl
theorem one_viP (l : List Int) : ∀ u ∈ vi .i64 l, u.oneCell' = true := by
  intro u hu; obtain ⟨b, _, rfl⟩ := List.mem_map.1 hu; rfl
theorem vi_vnP (l : List Nat) : vi .i64 (l.map (fun x : Nat => (x : Int))) = vn .i64 l := by unfold vi vn; rw [List.map_map]; rfl
set_option maxHeartbeats 600000 in
theorem ref_Value (A : Option Addr) (n c : Nat) (l : List Nat) (x : Nat) (w : World) {B : Nat} (h : Reads w B A n (vn .i64 l)) (hn : n ≤ 1000000) (hl : ∀ z ∈ l, z < 16) (hx : x < 16) :
    Calls Try.prog 55 #[.slice A n c, .int .i64 (x : Int)] w (Ret w (.int .i64 (horn x l : Int))) := by
  have HL := Lib.hid hl
  have H := Lib.hid h.nat_len
  have HH := Lib.hid (vals_zero hx hl)
  go_enter Try.func55, Try.ntmps55
  go_wp2
  go_loop [5, 10] (fun a i => ∃ k p : Nat, k ≤ n ∧ i = .int .i64 k ∧ a = .int .i64 p ∧ p < 16 ∧ Hid (vals x 0 (l.take k) = p)) (fun _ i => n - (intOf i).toNat)
  case atStart => exact ⟨0, 0, by omega, rfl, rfl, by omega, rfl⟩
  case round =>
    obtain ⟨k, p, hk, rfl, rfl, hp, ha⟩ := hrel
    by_cases hlt : k < n
    · obtain ⟨ad, y, rfl, _, hy, hc⟩ := h.nat_at hlt
      have hy16 := HL.out y (mem_at hy)
      have hg := gp_lt hx k
      have HA : Hid (vals x 0 (l.take (k + 1)) = p ^^^ gm y (gp x k)) := by unfold Hid; rw [vals_next hy, ha.out]
      have c1 := ref_Pow x k w hx (by omega)
      have c2 := ref_Mul y (gp x k) w hy16 hg
      have hm := gm_lt hy16 hg
      have e2 := i64_xor_nat p (gm y (gp x k)) (by omega) (by omega)
      have h2 := xor_lt16 hp hm
      clear hy ha
      generalize gm y (gp x k) = g2 at *
      generalize gp x k = g at *
      go_wp2_with (first | (go_at_call 61; refine c1.mono ?_; rintro e w' ⟨rfl, rfl⟩) | (go_at_call 54; refine c2.mono ?_; rintro e w' ⟨rfl, rfl⟩))
      go_round
      case rel => exact ⟨k + 1, p ^^^ g2, by omega, by go_num, by rw [← e2], h2, HA⟩
      case measure => simp [intOf]; omega
    · obtain rfl : k = n := by omega
      have HE : Hid (horn x l = p) := by
        unfold Hid; rw [← HH.out, ← ha.out, List.take_of_length_le (Nat.le_of_eq H.out)]
      go_wp2
      go_ret
      exact ⟨by rw [HE.out]; rfl, rfl⟩

end Go.Proofs.Ytpbffbhebdcpbaa

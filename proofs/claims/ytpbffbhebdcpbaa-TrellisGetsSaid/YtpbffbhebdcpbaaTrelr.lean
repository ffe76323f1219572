import Derived.Test.YtpbffbhebdcpbaaTrel
set_option linter.unusedVariables false
namespace Go.Proofs.Ytpbffbhebdcpbaa
open Go.RowKit

theorem odd3 (a b c : Bool) : oddT [a, b, c] = ((a != b) != c) := by cases a <;> cases b <;> cases c <;> rfl
theorem odd2 (a b : Bool) : oddT [a, b] = (a != b) := by cases a <;> cases b <;> rfl
set_option maxHeartbeats 800000 in
theorem ref_Trellis (A : Option Addr) (n c : Nat) (l : List Bool) (w : World) (h : Reads w w.heap.size A n (vb l)) (hn : n ≤ 12) :
    Calls Try.prog 25 #[.slice A n c] w (RetS w 4 (vb (trL l (n + 2)))) := by
  obtain ⟨N, hN⟩ : ∃ N, N = n + 2 := ⟨_, rfl⟩
  rw [← hN]
  have eN : (n : Int) + 2 = (N : Int) := by omega
  have hN14 : N ≤ 14 := by omega
  clear hN
  go_enter Try.func25, Try.ntmps25
  go_wp2
  go_loopw [3, 4] (fun v i wr => ∃ (k : Nat) (out : List Bool), k ≤ N ∧ i = .int .i64 k ∧ Hid (trL l k = out) ∧ Own wr w.heap.size 4 v (vb out) ∧ Below w.heap.size w wr) (fun _ i _ => N - (intOf i).toNat)
  case atStart => exact ⟨0, [], by omega, rfl, rfl, Own.nil _ _ _, Below.refl _ _⟩
  case round =>
    obtain ⟨k, out, hk, rfl, hout, hown, hbel⟩ := hrel
    by_cases hlt : k < N
    · have hlt2 : (k : Int) < (N : Int) := by omega
      have HOL : Hid ((vb out).length ≤ 28) := by unfold Hid; rw [List.length_map, ← hout.out, trL_len]; omega
      have HS : Hid (trL l (k + 1) = out ++ [tr1 l k, tr2 l k]) := by unfold Hid; rw [trL, hout.out]
      obtain ⟨b0, hb0⟩ : ∃ b, atB l (k : Int) = b := ⟨_, rfl⟩
      obtain ⟨b1, hb1⟩ : ∃ b, atB l ((k : Int) - 1) = b := ⟨_, rfl⟩
      obtain ⟨b2, hb2⟩ : ∃ b, atB l ((k : Int) - 2) = b := ⟨_, rfl⟩
      have HX : Hid (oddT [b0, b1, b2] = tr1 l k) := by unfold Hid; rw [odd3, ← hb0, ← hb1, ← hb2]; rfl
      have HY : Hid (oddT [b0, b2] = tr2 l k) := by unfold Hid; rw [odd2, ← hb0, ← hb2]; rfl
      have H0 := Lib.hid hb0
      have H1 := Lib.hid hb1
      have H2 := Lib.hid hb2
      clear hb0 hb1 hb2 hout
      generalize tr1 l k = x at *
      generalize tr2 l k = y at *
      have hB := hbel.size
      have ca := fun (w' : World) (hb : Below w.heap.size w w') (i : Int) (b : Bool) (hr : Hid (atB l i = b)) => ref_at A n c l i b w' ((h.below hb).more hb.size) (by omega) hr
      have hbA : Below w.heap.size w (wr.alloc (.cells #[.bool b0, .bool b1, .bool b2] 4)) := hbel.alloc hB _
      have hbB : Below w.heap.size w ((wr.alloc (.cells #[.bool b0, .bool b1, .bool b2] 4)).alloc (.cells #[.bool b0, .bool b2] 4)) := hbA.alloc hbA.size _
      have hbC : Below w.heap.size w (((wr.alloc (.cells #[.bool b0, .bool b1, .bool b2] 4)).alloc (.cells #[.bool b0, .bool b2] 4)).alloc (.cells #[.bool x, .bool y] 4)) := hbB.alloc hbB.size _
      have q0 := ca wr hbel _ _ H0
      have q1 := ca wr hbel _ _ H1
      have q2 := ca wr hbel _ _ H2
      have r0 := ca _ hbA _ _ H0
      have r2 := ca _ hbA _ _ H2
      have hr3 := reads_lay wr #[.bool b0, .bool b1, .bool b2] 4 3 rfl
      have co3 := ref_OddBitsT (some ⟨wr.heap.size, 0, none⟩) 3 3 [b0, b1, b2] x _ hr3 (by omega) HX
      have hr2 := reads_lay (wr.alloc (.cells #[.bool b0, .bool b1, .bool b2] 4)) #[.bool b0, .bool b2] 4 2 rfl
      have hrC := reads_lay ((wr.alloc (.cells #[.bool b0, .bool b1, .bool b2] 4)).alloc (.cells #[.bool b0, .bool b2] 4)) #[.bool x, .bool y] 4 2 rfl
      simp only [World.size_alloc] at hr2 hrC
      have co2 := ref_OddBitsT (some ⟨wr.heap.size + 1, 0, none⟩) 2 2 [b0, b2] y _ hr2 (by omega) HY
      have hoC := ((hown.alloc (.cells #[.bool b0, .bool b1, .bool b2] 4)).alloc (.cells #[.bool b0, .bool b2] 4)).alloc (.cells #[.bool x, .bool y] 4)
      clear ca hr3 hr2 HX HY
      go_wp2_with (first
        | (go_at_call 39; refine q0.mono ?_; clear q0; rintro e w' ⟨rfl, rfl⟩)
        | (go_at_call 39; refine q1.mono ?_; clear q1; rintro e w' ⟨rfl, rfl⟩)
        | (go_at_call 39; refine q2.mono ?_; clear q2; rintro e w' ⟨rfl, rfl⟩)
        | (go_at_call 39; refine r0.mono ?_; clear r0; rintro e w' ⟨rfl, rfl⟩)
        | (go_at_call 39; refine r2.mono ?_; clear r2; rintro e w' ⟨rfl, rfl⟩)
        | (go_at_call 38; refine co3.mono ?_; clear co3; rintro e w' ⟨rfl, rfl⟩)
        | (go_at_call 38; refine co2.mono ?_; rintro e w' ⟨rfl, rfl⟩)
        | (at_builtin; refine appN el_concat_bools rfl _ _ rfl rfl hoC rfl hrC (one_vbT [x, y]) (by have := HOL.out; unfold maxLen; omega) (by have := HOL.out; omega) hbC.size ?_; intro v3 w3 ho3 hb3 _ _))
      go_roundw
      case rel => exact ⟨k + 1, out ++ [x, y], by omega, by go_num, HS, by simpa [vb] using ho3, hbC.trans hb3⟩
      case measure => simp [intOf]; omega
    · obtain rfl : k = N := by omega
      have hlt2 : ¬ (k : Int) < (k : Int) := by omega
      obtain ⟨A3, k3, e⟩ := hown.form
      generalize (vb out).length = n3 at e
      subst e
      go_wp2
      go_ret
      exact ⟨A3, n3, k3, rfl, by rw [hout.out]; exact hown, hbel⟩
end Go.Proofs.Ytpbffbhebdcpbaa

import Derived.Test.YtakpkllfoddalaaHammq
import Derived.Test.YtakpkllfoddalaaGuard
set_option linter.unusedVariables false
namespace Go.Proofs.Ytakpkllfoddalaa
open Go.RowKit

set_option maxHeartbeats 800000 in
theorem hamm_Put2 (r : Nat) (A : Option Addr) (m n c : Nat) (D : List Bool) (p : Nat) (w : World) (h : Reads w w.heap.size A m (vb D)) (hr2 : 2 ≤ r) (hr4 : r ≤ 4) (hn : Hid (n + 1 = 2 ^ r)) (hm : Hid (m + r = n)) (hp : Hid (ptrL (layL D 0 n) = p)) :
    Calls Try.prog 33 #[.int .i64 (r : Int), .slice A m c] w (fun e w' => ∃ A' n' c', e = .returned (.tuple #[.slice A' n' c', .int .i64 0]) ∧ Own w' w.heap.size 4 (.slice A' n' c') (vb (layL D p n ++ [oddL (layL D p n)])) ∧ Below w.heap.size w w') := by
  have c1 := hamm_Put r A m n c D p w h hr2 hr4 hn hm hp
  have hn15 : n ≤ 15 := by have : 2 ^ r ≤ 2 ^ 4 := Nat.pow_le_pow_right (by omega) hr4; have := hn.out; omega
  have hL := layL_len D p n
  generalize layL D p n = L at *
  have hvL : (vb L).length = n := by rw [List.length_map, hL]
  have HVL := Lib.hid hvL
  have c2 := fun (A' : Option Addr) (n' c' : Nat) (w' : World) (ho : Own w' w.heap.size 4 (.slice A' n' c') (vb L)) => hamm_odd A' n' c' L (oddL L) w' ho.reads (by rw [← ho.len, hvL]; omega) rfl
  clear hL hvL
  go_enter Try.func33, Try.ntmps33
  go_wp2_with (first | (go_at_call 23; refine c1.mono ?_; rintro e w1 ⟨A1, n1, k1, rfl, ho1, hb1⟩) | (go_at_call 62; refine (c2 _ _ _ _ ho1).mono ?_; rintro e w' ⟨rfl, rfl⟩) | (at_builtin; refine app1 el_clone_bools rfl _ _ rfl rfl ho1 _ _ rfl rfl (by rw [HVL.out]; unfold maxLen; omega) (by rw [HVL.out]; omega) hb1.size ?_; intro v2 w2 ho2 hb2 _ _))
  obtain ⟨A2, k2, e2⟩ := ho2.form
  rw [List.length_append, HVL.out] at e2
  subst e2
  go_ret2
  exact ⟨A2, _, k2, rfl, by simpa [vb] using ho2, hb1.trans hb2⟩

set_option maxHeartbeats 400000 in
theorem hamm_Put2_err (r : Int) (A : Option Addr) (n c : Nat) (z : Int) (w : World) (hm : n ≤ maxLen) (hz : Hid (hammErr r n (-r) = z)) (h0 : z ≠ 0) :
    Calls Try.prog 33 #[.int .i64 r, .slice A n c] w (Ret w (.tuple #[.slice none 0 0, .int .i64 z])) := by
  have c1 := hamm_Put_err r A n c z w hm hz h0
  have hz1 : (z != 0) = true := by simpa using h0
  clear h0
  go_enter Try.func33, Try.ntmps33
  go_wp2_with (go_at_call 23; refine c1.mono ?_; rintro e w1 ⟨rfl, rfl⟩)
  go_ret2
  exact ⟨rfl, rfl⟩

set_option maxHeartbeats 800000 in
theorem HammPutsTwo_walk (r : Int) (A : Option Addr) (n c : Nat) (D : List Bool) (w : World) (_ : (Lit.int .i64 r).wf = true) (h : Reads w w.heap.size A n (vb D)) (hs : n * 1 ≤ reachBytes) :
    Calls Try.prog 9 #[.int .i64 r, .slice A n c] w (LawTrue w) := by
  have hm : n ≤ maxLen := by unfold reachBytes at hs; unfold maxLen; omega
  have hm2 : n ≤ 9223372036854775807 := by unfold maxLen at hm; omega
  by_cases h0 : hammErr r n (-r) = 0
  · obtain ⟨k, rfl, hk2, hk4, hn⟩ := hammErr_ok h0
    have c2 := fun w => law_hammCheck k n (-(k : Int)) 0 w (by omega) (by omega) h0
    obtain ⟨N, hN⟩ : ∃ N, N + 1 = 2 ^ k := ⟨2 ^ k - 1, by have : 0 < 2 ^ k := Nat.pow_pos (by omega); omega⟩
    have hmr : n + k = N := by omega
    obtain ⟨p, hp⟩ : ∃ p, ptrL (layL D 0 N) = p := ⟨_, rfl⟩
    have c1 := hamm_Put2 k A n N c D p w h hk2 hk4 hN hmr hp
    have c3 := fun (w1 : World) (hb1 : Below w.heap.size w w1) => ref_Hamm k A n N c D p w1 ((h.below hb1).more hb1.size) hk2 hk4 hN hmr hp
    have hN15 : N ≤ 15 := by have : 2 ^ k ≤ 2 ^ 4 := Nat.pow_le_pow_right (by omega) hk4; omega
    have hL := layL_len D p N
    clear hn hN hmr hp h0
    generalize layL D p N = L at *
    have hvL : (vb L).length = N := by rw [List.length_map, hL]
    have HVL := Lib.hid hvL
    have hvL2 : (vb (L ++ [oddL L])).length ≤ 16 := by rw [List.length_map, List.length_append, hL]; simp; omega
    have HVL2 := Lib.hid hvL2
    have c5 := fun (A' : Option Addr) (n' c' : Nat) (w' : World) (B : Nat) (ho : Own w' B 4 (.slice A' n' c') (vb L)) => ref_OddBits A' n' c' L (oddL L) w' ho.reads (by rw [← ho.len, hvL]; omega) rfl
    clear hL hvL hvL2
    go_enter Try.func9, Try.ntmps9
    go_wp2_with (first | (go_at_call 33; refine c1.mono ?_; rintro e w1 ⟨A1, n1, k1, rfl, ho1, hb1⟩) | (go_at_call 24; refine (c2 _).mono ?_; rintro e w' ⟨rfl, rfl⟩) | (go_at_call 25; refine (c3 _ hb1).mono ?_; rintro e w2 ⟨A2, n2, k2, rfl, ho2, hb2⟩) | (go_at_call 34; refine (c5 _ _ _ _ _ ho2).mono ?_; rintro e w' ⟨rfl, rfl⟩) | (at_builtin; refine unguard rfl ?_; refine app1 el_clone_bools rfl _ _ rfl rfl ho2 _ _ rfl rfl (by rw [HVL.out]; unfold maxLen; omega) (by rw [HVL.out]; omega) hb2.size ?_; intro v3 w3 ho3 hb3 _ _; obtain ⟨A3, k3, e3⟩ := ho3.form; rw [List.length_append, HVL.out] at e3; subst e3; have c4 := ref_Bools A1 A3 n1 _ k1 k3 (L ++ [oddL L]) (L ++ [oddL L]) true w3 ((ho1.reads.below hb2).below hb3) (by simpa [vb] using ho3.reads) (by rw [← ho1.len]; have := HVL2.out; unfold maxLen; omega) (by simp [Hid])) | (go_at_call 22; refine c4.mono ?_; rintro e w4 ⟨rfl, m4, rfl⟩))
    go_ret
    exact ⟨rfl, below_drewN (hb1.trans ((hb2.mono hb1.size).trans (hb3.mono hb1.size))) _⟩
  · have c1 := hamm_Put2_err r A n c (hammErr r n (-r)) w hm rfl h0
    have hz : (hammErr r n (-r) != 0) = true := by simpa using h0
    have c2 : ∀ m w, ((m = -r) ∨ r < 2 ∨ 4 < r) → Calls Try.prog 24 #[.int .i64 r, .int .i64 n, .int .i64 m] w (Ret w (.int .i64 (hammErr r n (-r)))) := fun m w hmr => by
      refine law_hammCheck r n m _ w (by omega) (by omega) ?_
      unfold Hid
      by_cases hr : r < 2 ∨ 4 < r
      · rw [hammErr, if_pos hr, hammErr, if_pos hr]
      · rw [show m = -r by omega]
    by_cases hr : r < 2 ∨ 4 < r
    · have c2 := fun m w => c2 m w (.inr hr)
      clear h0 hr
      generalize hammErr r n (-r) = z at *
      go_enter Try.func9, Try.ntmps9
      go_wp2_with (first | (go_at_call 33; refine c1.mono ?_; rintro e w1 ⟨rfl, rfl⟩) | (go_at_call 24; refine (c2 _ _).mono ?_; rintro e w' ⟨rfl, rfl⟩))
      go_ret
      exact .same _
    · have c2 := fun w => c2 (-r) w (.inl rfl)
      have hr1 : 2 ≤ r := by omega
      have hr2 : r ≤ 4 := by omega
      clear h0 hr
      generalize hammErr r n (-r) = z at *
      go_enter Try.func9, Try.ntmps9
      go_wp2_with (first | (go_at_call 33; refine c1.mono ?_; rintro e w1 ⟨rfl, rfl⟩) | (go_at_call 24; refine (c2 _).mono ?_; rintro e w' ⟨rfl, rfl⟩))
      go_ret
      exact .same _
end Go.Proofs.Ytakpkllfoddalaa

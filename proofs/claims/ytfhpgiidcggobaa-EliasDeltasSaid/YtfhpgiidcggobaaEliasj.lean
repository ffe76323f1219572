import Derived.Test.YtfhpgiidcggobaaEliasi
import Derived.Test.YtfhpgiidcggobaaAppz
set_option linter.unusedVariables false
namespace Go.Proofs.Ytfhpgiidcggobaa
open Go.RowKit

def deL (n k j : Nat) : List Bool := gaL k j ++ subL (digitsL n k) 1 (k - 1)
theorem deL_vb (n k j : Nat) : vb (gaL k j) ++ vb (subL (digitsL n k) 1 (k - 1)) = vb (deL n k j) := by unfold deL vb; rw [List.map_append]
theorem deL_len (n k j : Nat) (h : 1 ≤ k) : (deL n k j).length = (j - 1) + j + (k - 1) := by
  unfold deL; rw [List.length_append, gaL_len, subL_len _ _ _ (by rw [digitsL_len]; omega)]
/-- the slice behind the first element: its address, as the model has it -/
theorem tail_reads {w : World} {B k : Nat} {A : Option Addr} {l : List Bool} (h : Reads w B A k (vb l)) (hk : 1 ≤ k) : ∃ ad, A = some ad ∧ Reads w B (some (ad.add 1)) (k - 1) (vb (subL l 1 (k - 1))) ∧ (k = 1 → Reads w B (some ad) 0 (vb (subL l 1 0))) := by
  obtain ⟨ad, rfl, _⟩ := h.cells (by omega)
  refine ⟨ad, rfl, h.mid (by omega), fun e => ?_⟩
  have : subL l 1 0 = [] := by simp [subL]
  rw [this]
  exact ⟨rfl, fun h => absurd h (by omega)⟩
set_option maxRecDepth 100000 in
set_option maxHeartbeats 800000 in
theorem elias_Delta (n k j : Nat) (w : World) (hn1 : 1 ≤ n) (hn : n ≤ 1048576) (hk : Hid (Lib.bitLen n = k)) (h1 : 1 ≤ k) (h2 : k ≤ 21) (hj : Hid (Lib.bitLen k = j)) (j1 : 1 ≤ j) (j2 : j ≤ 21) :
    Calls Try.prog 29 #[.int .i64 (n : Int)] w (fun e w' => ∃ A' n' c', e = .returned (.tuple #[.slice A' n' c', .int .i64 0]) ∧ Own w' w.heap.size 4 (.slice A' n' c') (vb (deL n k j)) ∧ Below w.heap.size w w') := by
  have cl := bits_Len n k w hn hk
  have cg := elias_gamma k j w (by omega) hj j1 j2
  have cd := fun w => kraft_Digits n k w (by omega) (by omega)
  have HV := Lib.hid (deL_vb n k j)
  have HG : Hid ((vb (gaL k j)).length ≤ 50) := by unfold Hid; rw [List.length_map, gaL_len]; omega
  have HL := Lib.hid (digitsL_len n k)
  go_enter Try.func29, Try.ntmps29
  go_wp2_with (first
    | (go_at_call 53; refine cl.mono ?_; rintro e w' ⟨rfl, rfl⟩)
    | (go_at_call 51; refine cg.mono ?_; rintro e w1 ⟨A1, n1, c1, rfl, ho1, hb1⟩))
  refine (cd _).mono ?_
  rintro e w2 ⟨A2, n2, c2, rfl, ho2, hb2⟩
  obtain rfl : k = n2 := by have h1 := ho2.len; rw [List.length_map, HL.out] at h1; exact h1
  obtain ⟨ad, rfl, hr1, hr0⟩ := tail_reads ho2.reads h1
  have hcap := ho2.capLe'
  have hoG := ho1.below hb2 (Nat.le_refl _)
  have hbw := hb1.trans (hb2.mono hb1.size)
  simp only [Addr.add] at hr1
  by_cases hc : 1 < c2
  · have k1 : (1 : Int) ≤ (k : Int) := by omega
    have hne1 : ¬ c2 = 1 := by omega
    clear hr0 cd cg cl
    go_wp2_with (at_builtin; refine appN el_clone_bools rfl _ _ rfl rfl hoG rfl hr1 (one_vbG _) (by have := HG.out; unfold maxLen; omega) (by have := HG.out; omega) hbw.size ?_; intro v3 w3 ho3 hb3 _ _)
    rw [HV.out] at ho3
    obtain ⟨A3, k3, e3⟩ := ho3.form
    generalize (vb (deL n k j)).length = n3 at e3
    subst e3
    go_ret2
    exact ⟨A3, n3, k3, rfl, ho3, hbw.trans hb3⟩
  · obtain rfl : k = 1 := by omega
    obtain rfl : c2 = 1 := by omega
    have hz0 := hr0 rfl
    clear hr0
    clear hr1 cd cg cl
    go_wp2_with (at_builtin; refine appN el_clone_bools rfl _ _ rfl rfl hoG rfl hz0 (one_vbG _) (by have := HG.out; unfold maxLen; omega) (by have := HG.out; omega) hbw.size ?_; intro v3 w3 ho3 hb3 _ _)
    rw [show vb (subL (digitsL n 1) 1 0) = vb (subL (digitsL n 1) 1 (1 - 1)) from rfl, HV.out] at ho3
    obtain ⟨A3, k3, e3⟩ := ho3.form
    generalize (vb (deL n 1 j)).length = n3 at e3
    subst e3
    go_ret2
    exact ⟨A3, n3, k3, rfl, ho3, hbw.trans hb3⟩
set_option maxHeartbeats 800000 in
theorem ref_Delta (n k j : Nat) (w : World) (hn : n ≤ 1048576) (hk : Hid (Lib.bitLen n = k)) (h1 : 1 ≤ k) (h2 : k ≤ 21) (hj : Hid (Lib.bitLen k = j)) (j1 : 1 ≤ j) (j2 : j ≤ 21) :
    Calls Try.prog 30 #[.int .i64 (n : Int)] w (RetS w 4 (vb (deL n k j))) := by
  have cb := ref_bin n k w hn hk
  have cg := fun w => ref_Gamma k j w (by omega) hj j1 j2
  have HV := Lib.hid (deL_vb n k j)
  have HG : Hid ((vb (gaL k j)).length ≤ 50) := by unfold Hid; rw [List.length_map, gaL_len]; omega
  have HL := Lib.hid (digitsL_len n k)
  go_enter Try.func30, Try.ntmps30
  go_wp2_with (go_at_call 52; refine cb.mono ?_; clear cb; rintro e w2 ⟨A2, n2, c2, rfl, ho2, hb2⟩; obtain rfl : k = n2 := (by have h1 := ho2.len; rw [List.length_map, HL.out] at h1; exact h1))
  obtain ⟨ad, rfl, hr1, hr0⟩ := tail_reads ho2.reads h1
  have hcap := ho2.capLe'
  simp only [Addr.add] at hr1
  have hbd : Below w.heap.size w w2.drew := hb2.drew
  by_cases hc : 1 < c2
  · have k1 : (1 : Int) ≤ (k : Int) := by omega
    have hne1 : ¬ c2 = 1 := by omega
    have k2 : 1 ≤ k := by omega
    have k3 : k ≤ c2 := hcap
    clear hr0
    go_region_law (first
      | (refine step_appN el_clone_bools rfl (.tmp 8) (.tmp 10) rfl rfl hoG rfl (hr1.drew.below (hbg.mono (Nat.le_refl _))) (one_vbG _) (by have := HG.out; unfold maxLen; omega) (by have := HG.out; omega) (hbd.trans (hbg.mono hbd.size)).size ?_; intro v3 w3 ho3 hb3)
      | (go_simp; go_at_call 28; refine (cg _).mono ?_; rintro e wg ⟨Ag, ng, kg, rfl, hog, hbg⟩; have hoG := hog.low hbd.size))
    all_goals
      rw [HV.out] at ho3
      obtain ⟨A3, k3, e3⟩ := ho3.form
      generalize (vb (deL n k j)).length = n3 at e3
      subst e3
      go_wp2
      go_ret
      exact ⟨A3, n3, k3, rfl, ho3, (hbd.trans (hbg.mono hbd.size)).trans hb3⟩
  · obtain rfl : k = 1 := by omega
    obtain rfl : c2 = 1 := by omega
    have hz0 := hr0 rfl
    clear hr0
    clear hr1
    go_region_law (first
      | (refine step_appN el_clone_bools rfl (.tmp 8) (.tmp 10) rfl rfl hoG rfl (hz0.drew.below (hbg.mono (Nat.le_refl _))) (one_vbG _) (by have := HG.out; unfold maxLen; omega) (by have := HG.out; omega) (hbd.trans (hbg.mono hbd.size)).size ?_; intro v3 w3 ho3 hb3)
      | (go_simp; go_at_call 28; refine (cg _).mono ?_; rintro e wg ⟨Ag, ng, kg, rfl, hog, hbg⟩; have hoG := hog.low hbd.size))
    all_goals
      rw [show vb (subL (digitsL n 1) 1 0) = vb (subL (digitsL n 1) 1 (1 - 1)) from rfl, HV.out] at ho3
      obtain ⟨A3, k3, e3⟩ := ho3.form
      generalize (vb (deL n 1 j)).length = n3 at e3
      subst e3
      go_wp2
      go_ret
      exact ⟨A3, n3, k3, rfl, ho3, (hbd.trans (hbg.mono hbd.size)).trans hb3⟩
set_option maxHeartbeats 400000 in
theorem EliasDeltas_walk (n : Int) (w : World) (_ : (Lit.int .i64 n).wf = true) :
    Calls Try.prog 8 #[.int .i64 n] w (LawTrue w) := by
  by_cases h1 : n < 1
  · have c1 : Calls Try.prog 29 #[.int .i64 n] w (Ret w (.tuple #[.slice none 0 0, .int .i64 4])) := by
      go_enter Try.func29, Try.ntmps29
      go_wp2
      go_ret2
      exact ⟨rfl, rfl⟩
    go_enter Try.func8, Try.ntmps8
    go_wp2_with (go_at_call 29; refine c1.mono ?_; rintro e w1 ⟨rfl, rfl⟩)
    go_ret
    exact .same _
  by_cases h2 : 1048576 < n
  · have c1 : Calls Try.prog 29 #[.int .i64 n] w (Ret w (.tuple #[.slice none 0 0, .int .i64 4])) := by
      go_enter Try.func29, Try.ntmps29
      go_wp2
      go_ret2
      exact ⟨rfl, rfl⟩
    go_enter Try.func8, Try.ntmps8
    go_wp2_with (go_at_call 29; refine c1.mono ?_; rintro e w1 ⟨rfl, rfl⟩)
    go_ret
    exact .same _
  obtain ⟨m, rfl⟩ : ∃ m : Nat, n = m := ⟨n.toNat, by omega⟩
  have hm : m ≤ 1048576 := by omega
  obtain ⟨k, hk⟩ : ∃ k, Lib.bitLen m = k := ⟨_, rfl⟩
  have hk1 : 1 ≤ k := by rw [← hk]; exact bitLen_pos (by omega) hm
  have hk2 : k ≤ 21 := by rw [← hk]; exact bitLen_21 hm
  obtain ⟨j, hj⟩ : ∃ j, Lib.bitLen k = j := ⟨_, rfl⟩
  have hj1 : 1 ≤ j := by rw [← hj]; exact bitLen_pos hk1 (by omega)
  have hj2 : j ≤ 21 := by rw [← hj]; exact bitLen_21 (by omega)
  have c1 := elias_Delta m k j w (by omega) hm hk hk1 hk2 hj hj1 hj2
  have c2 := fun w => ref_Delta m k j w hm hk hk1 hk2 hj hj1 hj2
  have hl := Lib.hid (deL_len m k j hk1)
  have c3 := fun (A1 A2 : Option Addr) (n1 n2 k1 k2 : Nat) (w2 : World) (g1 : Reads w2 w2.heap.size A1 n1 (vb (deL m k j))) (g2 : Reads w2 w2.heap.size A2 n2 (vb (deL m k j))) => ref_Bools A1 A2 n1 n2 k1 k2 _ _ true w2 g1 g2 (by have := g1.bool_len; have := hl.out; unfold maxLen; omega) (by simp [Hid])
  clear hk hj
  generalize deL m k j = xs at *
  go_enter Try.func8, Try.ntmps8
  go_wp2_with (first | (go_at_call 29; refine c1.mono ?_; rintro e w1 ⟨A1, n1, k1, rfl, ho1, hb1⟩) | (go_at_call 30; refine (c2 _).mono ?_; rintro e w2 ⟨A2, n2, k2, rfl, ho2, hb2⟩; have c3 := c3 A1 A2 n1 n2 k1 k2 w2 ((ho1.reads.below hb2).more hb2.size) ho2.reads) | (go_at_call 17; refine c3.mono ?_; rintro e w3 ⟨rfl, m, rfl⟩))
  go_ret
  exact ⟨rfl, below_drewN (hb1.trans (hb2.mono hb1.size)) _⟩
end Go.Proofs.Ytfhpgiidcggobaa

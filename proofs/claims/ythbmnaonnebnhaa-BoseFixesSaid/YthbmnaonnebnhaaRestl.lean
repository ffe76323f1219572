import Derived.Test.YthbmnaonnebnhaaRestp
set_option linter.unusedVariables false
namespace Go.Proofs.Ythbmnaonnebnhaa
open Go.RowKit

/-! ### fifteen bits -/
set_option maxHeartbeats 800000 in
theorem ref_Bose (A : Option Addr) (c : Nat) (l : List Bool) (w : World) (h : Reads w w.heap.size A 7 (vb l)) :
    Calls Try.prog 48 #[.slice A 7 c] w (RetS w 4 (vb (putL 465 8 l 7))) := by
  have H := Lib.hid h.bool_len
  have c4 := fun (A2 : Option Addr) (k2 : Nat) (w2 : World) (hr : Reads w2 w2.heap.size A2 15 (vb (padL l 8))) => ref_Rest 465 8 A2 15 k2 (padL l 8) w2 hr (by omega) (by omega) (by decide) (by decide) (by omega) (by omega)
  have hq : restF 465 8 (padL l 8) 15 < 2 ^ 8 := restF_lt (by decide) (by decide) 15
  have HPU : Hid (vb l ++ vb (digitsL (restF 465 8 (padL l 8) 15) 8) = vb (putL 465 8 l 7)) := putL_vb 465 8 l 7
  generalize restF 465 8 (padL l 8) 15 = q at *
  have c5 : ∀ w, Calls Try.prog 46 #[.int .i64 (q : Int), .int .i64 8] w (RetS w 4 (vb (digitsL q 8))) := fun w => ref_Digits q 8 w (by omega) (by omega)
  have hdl : Hid ((digitsL q 8).length = 8) := digitsL_len q 8
  have hpl : Hid ((padL l 8).length = 15) := padL_len l 8 7 H.out
  have hoA : Own (w.alloc (.cells #[] 4)) w.heap.size 4 (.slice (some ⟨w.heap.size, 0, none⟩) 0 0) [] := Own.built w #[] 0 rfl (by unfold maxLen; omega) (Nat.le_refl _)
  have hrA : Reads (w.alloc (.cells #[] 4)) w.heap.size A 7 (vb l) := h.alloc (Nat.le_refl _) _
  have hbA : Below w.heap.size w (w.alloc (.cells #[] 4)) := (Below.refl _ _).alloc (Nat.le_refl _) _
  go_enter Try.func48, Try.ntmps48
  go_wp2_with (first
    | (at_builtin; refine appN el_clone_bools rfl _ _ rfl rfl hoA rfl hrA (one_vb l) (by show 0 + 7 ≤ maxLen; unfold maxLen; omega) (by show (0 + 7) * 1 ≤ _; omega) hbA.size ?_; clear hoA hrA; intro v2 w2 ho2 hb2 _ _; rw [List.nil_append] at ho2; have hc2 := hbA.trans hb2; have hl2 : (vb l).length = 7 := (by rw [List.length_map]; exact H.out))
    | (at_builtin; refine appZ el_clone_bools Try.underlying3 rfl _ _ rfl rfl ho2 8 (by omega) rfl rfl (by rw [hl2]; unfold maxLen; omega) (by rw [hl2]; omega) hc2.size ?_; clear ho2; intro v3 w3 ho3 hb3 _ _; rw [padL_vb] at ho3; have hc3 := hc2.trans hb3; obtain ⟨A3, k3, e3⟩ := ho3.form; rw [List.length_map, hpl.out] at e3; subst e3; have c4 := c4 A3 k3 w3 ho3.reads)
    | (go_at_call 70; refine c4.mono ?_; clear c4; rintro e w4 ⟨rfl, hb4⟩; have hc4 := hc3.trans (hb4.mono hc3.size); have hoB : Own (w4.alloc (.cells #[] 4)) w.heap.size 4 (.slice (some ⟨w4.heap.size, 0, none⟩) 0 0) [] := Own.built w4 #[] 0 rfl (by unfold maxLen; omega) hc4.size; have hc5 : Below w.heap.size w (w4.alloc (.cells #[] 4)) := hc4.alloc hc4.size _; have hrB : Reads (w4.alloc (.cells #[] 4)) w.heap.size A 7 (vb l) := h.below hc5)
    | (at_builtin; refine appN el_clone_bools rfl _ _ rfl rfl hoB rfl hrB (one_vb l) (by show 0 + 7 ≤ maxLen; unfold maxLen; omega) (by show (0 + 7) * 1 ≤ _; omega) hc5.size ?_; clear hoB hrB; intro v6 w6 ho6 hb6 _ _; rw [List.nil_append] at ho6; have hc6 := hc5.trans hb6)
    | (go_at_call 46; refine (c5 _).mono ?_; rintro e w7 ⟨A7, n7, k7, rfl, ho7, hb7⟩; have hc7 := hc6.trans (hb7.mono hc6.size); have ho7' := ho6.below hb7 (Nat.le_refl _); obtain rfl : n7 = 8 := (by have := ho7.reads.bool_len; rw [hdl.out] at this; exact this.symm))
    | (at_builtin; refine appN el_clone_bools rfl _ _ rfl rfl ho7' rfl ho7.reads (one_vb _) (by rw [hl2]; unfold maxLen; omega) (by rw [hl2]; omega) hc7.size ?_; intro v8 w8 ho8 hb8 _ _; rw [HPU.out] at ho8; have hc8 := hc7.trans hb8; obtain ⟨A8, k8, e8⟩ := ho8.form; generalize (vb (putL 465 8 l 7)).length = n8 at e8; subst e8))
  go_ret
  exact ⟨A8, n8, k8, rfl, ho8, hc8⟩
end Go.Proofs.Ythbmnaonnebnhaa

import Derived.Test.YthijnhoggdoklaaRestp
set_option linter.unusedVariables false
namespace Go.Proofs.Ythijnhoggdoklaa
open Go.RowKit

set_option maxHeartbeats 800000 in
theorem law_RestPuts (g d : Nat) (A : Option Addr) (n c : Nat) (l : List Bool) (w : World) (h : Reads w w.heap.size A n (vb l)) (hz : Hid (restErr g n = 0)) (hg : g < 131072) (h1 : 2 ^ d ≤ g) (h2 : g < 2 ^ (d + 1)) (hd : d ≤ 16) (hd1 : 1 ≤ d) (hn : n ≤ 64) (hnd : n + d ≤ 64) :
    Calls Try.prog 12 #[.int .u32 (g : Int), .slice A n c] w (LawTrue w) := by
  have H := Lib.hid h.bool_len
  have c1 := rest_Put g d A n c l w h hz hg h1 h2 hd hn hnd
  have c2 := fun w => ref_RestCheck g A n c 0 w (by omega) hz
  have c3 := fun w => ref_Degree g d w (by omega) h1 h2 hd
  have c4 := fun (A2 : Option Addr) (k2 : Nat) (w2 : World) (hr : Reads w2 w2.heap.size A2 (n + d) (vb (padL l d))) => ref_Rest g d A2 (n + d) k2 (padL l d) w2 hr (by omega) hg h1 h2 hd hd1
  have hrl := restF_lt (l := padL l d) h1 h2 (n + d)
  have hp16 : 2 ^ d ≤ 2 ^ 16 := Nat.pow_le_pow_right (by omega) hd
  have hq : restF g d (padL l d) (n + d) < 65536 := by omega
  have HPU := Lib.hid (putL_vb g d l n)
  have HPL : Hid (putL g d l n = l ++ digitsL (restF g d (padL l d) (n + d)) d) := rfl
  have hbig : ¬ (64 : Int) < (n : Int) + (d : Int) := by omega
  clear h1 h2 hrl hp16 hz
  generalize restF g d (padL l d) (n + d) = q at *
  have c5 := fun w => ref_Digits q d w (by omega) (by omega)
  have hdl : Hid ((digitsL q d).length = d) := digitsL_len q d
  have hpl : Hid ((padL l d).length = n + d) := padL_len l d n H.out
  have htok : True := trivial
  go_enter Try.func12, Try.ntmps12
  go_wp2_with (first
    | (go_at_call 35; refine c1.mono ?_; clear c1; rintro e w1 ⟨A1, n1, k1, rfl, ho1, hb1⟩; have hr1 := (h.below hb1).more hb1.size; have hoA : Own (w1.alloc (.cells #[] 4)) w1.heap.size 4 (.slice (some ⟨w1.heap.size, 0, none⟩) 0 0) [] := Own.built w1 #[] 0 rfl (by unfold maxLen; omega) (Nat.le_refl _); have hrA : Reads (w1.alloc (.cells #[] 4)) w1.heap.size A n (vb l) := hr1.alloc (Nat.le_refl _) _; have hbA : Below w1.heap.size w1 (w1.alloc (.cells #[] 4)) := (Below.refl _ _).alloc (Nat.le_refl _) _)
    | (go_at_call 15; refine (c2 _).mono ?_; rintro e w' ⟨rfl, rfl⟩)
    | (go_at_call 30; refine (c3 _).mono ?_; rintro e w2 ⟨rfl, rfl⟩)
    | (at_builtin; refine appN el_clone_bools rfl _ _ rfl rfl hoA rfl hrA (one_vb l) (by simp; unfold maxLen; omega) (by simp; omega) hbA.size ?_; clear hoA hrA; intro v2 w2 ho2 hb2 _ _; rw [List.nil_append] at ho2; have hc2 := hbA.trans hb2; have hl2 : (vb l).length = n := (by rw [List.length_map]; exact H.out))
    | (at_builtin; refine appZ el_clone_bools Try.underlying3 rfl _ _ rfl rfl ho2 d hd1 rfl rfl (by rw [hl2]; unfold maxLen; omega) (by rw [hl2]; omega) hc2.size ?_; clear ho2; intro v3 w3 ho3 hb3 _ _; rw [padL_vb] at ho3; have hc3 := hc2.trans hb3; obtain ⟨A3, k3, e3⟩ := ho3.form; rw [List.length_map, hpl.out] at e3; subst e3; have c4 := c4 A3 k3 w3 ho3.reads)
    | (go_at_call 16; refine c4.mono ?_; clear c4; rintro e w4 ⟨rfl, hb4⟩; have hc4 := hc3.trans (hb4.mono hc3.size); have hoB : Own (w4.alloc (.cells #[] 4)) w1.heap.size 4 (.slice (some ⟨w4.heap.size, 0, none⟩) 0 0) [] := Own.built w4 #[] 0 rfl (by unfold maxLen; omega) hc4.size; have hc5 : Below w1.heap.size w1 (w4.alloc (.cells #[] 4)) := hc4.alloc hc4.size _; have hrB : Reads (w4.alloc (.cells #[] 4)) w1.heap.size A n (vb l) := hr1.below hc5)
    | (at_builtin; refine unguard rfl ?_; refine appN el_clone_bools rfl _ _ rfl rfl hoB rfl hrB (one_vb l) (by simp; unfold maxLen; omega) (by simp; omega) hc5.size ?_; clear hoB hrB; intro v6 w6 ho6 hb6 _ _; rw [List.nil_append] at ho6; have hc6 := hc5.trans hb6)
    | (go_at_call 36; refine (c5 _).mono ?_; rintro e w7 ⟨A7, n7, k7, rfl, ho7, hb7⟩; have hc7 := hc6.trans (hb7.mono hc6.size); have ho7' := ho6.below hb7 (Nat.le_refl _); obtain rfl : n7 = d := (by have := ho7.reads.bool_len; rw [hdl.out] at this; exact this.symm))
    | (at_builtin; refine unguard rfl ?_; refine appN el_clone_bools rfl _ _ rfl rfl ho7' rfl ho7.reads (one_vb _) (by rw [hl2]; unfold maxLen; omega) (by rw [hl2]; omega) hc7.size ?_; intro v8 w8 ho8 hb8 _ _; rw [HPU.out] at ho8; have hc8 := hc7.trans hb8; obtain ⟨A8, k8, e8⟩ := ho8.form; have hl8 : (vb (putL g n7 l n)).length = n + n7 := (by rw [List.length_map, HPL.out, List.length_append, H.out, hdl.out]); rw [hl8] at e8; subst e8; have c6 := ref_Bools A1 A8 n1 (n + n7) k1 k8 (putL g n7 l n) (putL g n7 l n) true w8 (ho1.reads.below hc8) ho8.reads (by have := ho1.reads.bool_len; rw [List.length_map] at hl8; rw [hl8] at this; unfold maxLen; omega) (by simp [Hid]))
    | (go_at_call 31; refine c6.mono ?_; rintro e w9 ⟨rfl, m9, rfl⟩))
  go_ret
  exact ⟨rfl, below_drewN (hb1.trans (hc8.mono hb1.size)) _⟩
set_option maxHeartbeats 800000 in
theorem RestPuts_walk (g : Nat) (A : Option Addr) (n c : Nat) (l : List Bool) (w : World) (hg : g < 4294967296) (h : Reads w w.heap.size A n (vb l)) (hm : n * 1 ≤ reachBytes) :
    Calls Try.prog 12 #[.int .u32 (g : Int), .slice A n c] w (LawTrue w) := by
  have hn : n ≤ 140737488355328 := by have := reachBytes_lt; omega
  have hnM : n ≤ maxLen := by unfold maxLen; omega
  clear hm
  by_cases h0 : restErr g n = 0
  · obtain ⟨hn64, hg2, d, hd1, hd16, h1, h2⟩ := restErr_ok h0
    by_cases hnd : n + d ≤ 64
    · exact law_RestPuts g d A n c l w h h0 hg2 h1 h2 hd16 hd1 hn64 hnd
    · have c1 := rest_Put_long g d A n c w h0 hg2 h1 h2 hd16 hn64 (by omega)
      have c2 := fun w => ref_RestCheck g A n c 0 w hg h0
      have c3 := fun w => ref_Degree g d w hg h1 h2 hd16
      have hbig : (64 : Int) < (n : Int) + (d : Int) := by omega
      clear h0 h1 h2 hnd
      go_enter Try.func12, Try.ntmps12
      go_wp2_with (first | (go_at_call 35; refine c1.mono ?_; rintro e w1 ⟨rfl, rfl⟩) | (go_at_call 15; refine (c2 _).mono ?_; rintro e w' ⟨rfl, rfl⟩) | (go_at_call 30; refine (c3 _).mono ?_; rintro e w2 ⟨rfl, rfl⟩))
      go_ret
      exact .same _
  · have hz : (restErr g n != 0) = true := by simpa using h0
    have hz2 : (restErr g n == 0) = false := by simpa using h0
    have c1 := rest_Put_err g A n c (restErr g n) w hg hnM rfl hz
    have c2 := fun w => ref_RestCheck g A n c (restErr g n) w hg rfl
    clear h0
    generalize restErr g n = z at *
    go_enter Try.func12, Try.ntmps12
    go_wp2_with (first | (go_at_call 35; refine c1.mono ?_; rintro e w1 ⟨rfl, rfl⟩) | (go_at_call 15; refine (c2 _).mono ?_; rintro e w' ⟨rfl, rfl⟩))
    go_ret
    exact .same _

/-! ### fifteen bits -/
set_option maxHeartbeats 800000 in
theorem ref_Bose (A : Option Addr) (c : Nat) (l : List Bool) (w : World) (h : Reads w w.heap.size A 7 (vb l)) :
    Calls Try.prog 38 #[.slice A 7 c] w (RetS w 4 (vb (putL 465 8 l 7))) := by
  have H := Lib.hid h.bool_len
  have c4 := fun (A2 : Option Addr) (k2 : Nat) (w2 : World) (hr : Reads w2 w2.heap.size A2 15 (vb (padL l 8))) => ref_Rest 465 8 A2 15 k2 (padL l 8) w2 hr (by omega) (by omega) (by decide) (by decide) (by omega) (by omega)
  have hq : restF 465 8 (padL l 8) 15 < 2 ^ 8 := restF_lt (by decide) (by decide) 15
  have HPU : Hid (vb l ++ vb (digitsL (restF 465 8 (padL l 8) 15) 8) = vb (putL 465 8 l 7)) := putL_vb 465 8 l 7
  generalize restF 465 8 (padL l 8) 15 = q at *
  have c5 : ∀ w, Calls Try.prog 36 #[.int .i64 (q : Int), .int .i64 8] w (RetS w 4 (vb (digitsL q 8))) := fun w => ref_Digits q 8 w (by omega) (by omega)
  have hdl : Hid ((digitsL q 8).length = 8) := digitsL_len q 8
  have hpl : Hid ((padL l 8).length = 15) := padL_len l 8 7 H.out
  have hoA : Own (w.alloc (.cells #[] 4)) w.heap.size 4 (.slice (some ⟨w.heap.size, 0, none⟩) 0 0) [] := Own.built w #[] 0 rfl (by unfold maxLen; omega) (Nat.le_refl _)
  have hrA : Reads (w.alloc (.cells #[] 4)) w.heap.size A 7 (vb l) := h.alloc (Nat.le_refl _) _
  have hbA : Below w.heap.size w (w.alloc (.cells #[] 4)) := (Below.refl _ _).alloc (Nat.le_refl _) _
  go_enter Try.func38, Try.ntmps38
  go_wp2_with (first
    | (at_builtin; refine appN el_clone_bools rfl _ _ rfl rfl hoA rfl hrA (one_vb l) (by show 0 + 7 ≤ maxLen; unfold maxLen; omega) (by show (0 + 7) * 1 ≤ _; omega) hbA.size ?_; clear hoA hrA; intro v2 w2 ho2 hb2 _ _; rw [List.nil_append] at ho2; have hc2 := hbA.trans hb2; have hl2 : (vb l).length = 7 := (by rw [List.length_map]; exact H.out))
    | (at_builtin; refine appZ el_clone_bools Try.underlying3 rfl _ _ rfl rfl ho2 8 (by omega) rfl rfl (by rw [hl2]; unfold maxLen; omega) (by rw [hl2]; omega) hc2.size ?_; clear ho2; intro v3 w3 ho3 hb3 _ _; rw [padL_vb] at ho3; have hc3 := hc2.trans hb3; obtain ⟨A3, k3, e3⟩ := ho3.form; rw [List.length_map, hpl.out] at e3; subst e3; have c4 := c4 A3 k3 w3 ho3.reads)
    | (go_at_call 16; refine c4.mono ?_; clear c4; rintro e w4 ⟨rfl, hb4⟩; have hc4 := hc3.trans (hb4.mono hc3.size); have hoB : Own (w4.alloc (.cells #[] 4)) w.heap.size 4 (.slice (some ⟨w4.heap.size, 0, none⟩) 0 0) [] := Own.built w4 #[] 0 rfl (by unfold maxLen; omega) hc4.size; have hc5 : Below w.heap.size w (w4.alloc (.cells #[] 4)) := hc4.alloc hc4.size _; have hrB : Reads (w4.alloc (.cells #[] 4)) w.heap.size A 7 (vb l) := h.below hc5)
    | (at_builtin; refine appN el_clone_bools rfl _ _ rfl rfl hoB rfl hrB (one_vb l) (by show 0 + 7 ≤ maxLen; unfold maxLen; omega) (by show (0 + 7) * 1 ≤ _; omega) hc5.size ?_; clear hoB hrB; intro v6 w6 ho6 hb6 _ _; rw [List.nil_append] at ho6; have hc6 := hc5.trans hb6)
    | (go_at_call 36; refine (c5 _).mono ?_; rintro e w7 ⟨A7, n7, k7, rfl, ho7, hb7⟩; have hc7 := hc6.trans (hb7.mono hc6.size); have ho7' := ho6.below hb7 (Nat.le_refl _); obtain rfl : n7 = 8 := (by have := ho7.reads.bool_len; rw [hdl.out] at this; exact this.symm))
    | (at_builtin; refine appN el_clone_bools rfl _ _ rfl rfl ho7' rfl ho7.reads (one_vb _) (by rw [hl2]; unfold maxLen; omega) (by rw [hl2]; omega) hc7.size ?_; intro v8 w8 ho8 hb8 _ _; rw [HPU.out] at ho8; have hc8 := hc7.trans hb8; obtain ⟨A8, k8, e8⟩ := ho8.form; generalize (vb (putL 465 8 l 7)).length = n8 at e8; subst e8))
  go_ret
  exact ⟨A8, n8, k8, rfl, ho8, hc8⟩
set_option maxHeartbeats 400000 in
theorem BosePuts_walk (A : Option Addr) (n c : Nat) (l : List Bool) (w : World) (h : Reads w w.heap.size A n (vb l)) (hm : n * 1 ≤ reachBytes) :
    Calls Try.prog 13 #[.slice A n c] w (LawTrue w) := by
  by_cases hn : n = 7
  · subst hn
    have c1 : Calls Try.prog 35 #[.int .u32 465, .slice A 7 c] w (RetSE' w 4 (vb (putL 465 8 l 7)) 0) := rest_Put 465 8 A 7 c l w h rfl (by omega) (by decide) (by decide) (by omega) (by omega) (by omega)
    have c2 := fun (w1 : World) (hb1 : Below w.heap.size w w1) => ref_Bose A c l w1 ((h.below hb1).more hb1.size)
    have hl : Hid ((putL 465 8 l 7).length = 15) := by unfold Hid putL; rw [List.length_append, digitsL_len, h.bool_len]
    generalize putL 465 8 l 7 = q at *
    clear hm
    have cb : Calls Try.prog 37 #[.slice A 7 c] w (RetSE' w 4 (vb q) 0) := by
      go_enter Try.func37, Try.ntmps37
      go_wp2_with (go_at_call 35; refine c1.mono ?_; rintro e w1 ⟨A1, n1, k1, rfl, ho1, hb1⟩)
      go_ret2
      exact ⟨A1, n1, k1, rfl, ho1, hb1⟩
    go_enter Try.func13, Try.ntmps13
    go_wp2_with (first | (go_at_call 37; refine cb.mono ?_; rintro e w1 ⟨A1, n1, k1, rfl, ho1, hb1⟩) | (go_at_call 38; refine (c2 _ hb1).mono ?_; rintro e w2 ⟨A2, n2, k2, rfl, ho2, hb2⟩; have c6 := ref_Bools A1 A2 n1 n2 k1 k2 q q true w2 (ho1.reads.below hb2) ho2.reads (by have := ho1.reads.bool_len; rw [hl.out] at this; unfold maxLen; omega) (by simp [Hid])) | (go_at_call 31; refine c6.mono ?_; rintro e w9 ⟨rfl, m9, rfl⟩))
    go_ret
    exact ⟨rfl, below_drewN (hb1.trans (hb2.mono hb1.size)) _⟩
  · have ht : ((n : Int) != 7) = true := by simp; omega
    have hn2 : n ≤ 140737488355328 := by have := reachBytes_lt; omega
    clear hm hn
    have cb : Calls Try.prog 37 #[.slice A n c] w (Ret w (.tuple #[.slice none 0 0, .int .i64 3])) := by
      go_enter Try.func37, Try.ntmps37
      go_wp2
      go_ret2
      exact ⟨rfl, rfl⟩
    go_enter Try.func13, Try.ntmps13
    go_wp2_with (go_at_call 37; refine cb.mono ?_; rintro e w1 ⟨rfl, rfl⟩)
    go_ret
    exact .same _
end Go.Proofs.Ythijnhoggdoklaa

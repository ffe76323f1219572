import Derived.Test.YthbmnaonnebnhaaBoseg
import Derived.Test.YthbmnaonnebnhaaBools
set_option linter.unusedVariables false
namespace Go.Proofs.Ythbmnaonnebnhaa
open Go.RowKit

set_option maxHeartbeats 800000 in
theorem bose_Fix_zero (A : Option Addr) (c : Nat) (l : List Bool) (w : World) (hcap : 15 ≤ c) (h : Reads w w.heap.size A 15 (vb l)) (hA : Hid (smA l = 0)) (hB : Hid (smB l = 0)) :
    Calls Try.prog 23 #[.slice A 15 c] w fun e w' => ∃ A1 n1 k1, e = .returned (.tuple #[.slice A1 n1 k1, .int .i64 0, .int .i64 0]) ∧ Reads w' w'.heap.size A1 n1 (vb (l.take 7)) ∧ Below w.heap.size w w' := by
  have H := Lib.hid h.bool_len
  have c1 := bose_sums_any A c l w h
  rw [hA.out, hB.out] at c1
  have hoA : Own (w.alloc (.cells #[] 4)) w.heap.size 4 (.slice (some ⟨w.heap.size, 0, none⟩) 0 0) [] := Own.built w #[] 0 rfl (by unfold maxLen; omega) (Nat.le_refl _)
  have hrA := (h.takeB (k := 7) (by omega)).alloc (Nat.le_refl _) (.cells #[] 4)
  obtain ⟨ad, rfl, _, _⟩ := h.cells (by omega)
  have k1 : 7 ≤ c := by omega
  have k2 : ¬ c = 7 := by omega
  go_enter Try.func23, Try.ntmps23
  go_wp2_with (first
    | (go_at_call 45; refine c1.mono ?_; clear c1; rintro e w1 ⟨rfl, rfl⟩)
    | (at_builtin; refine appN el_clone_bools rfl _ _ rfl rfl hoA rfl hrA (one_vb _) (by show 0 + 7 ≤ maxLen; unfold maxLen; omega) (by show (0 + 7) * 1 ≤ _; omega) (by simp) ?_; clear hoA hrA; intro v2 w2 ho2 hb2 _ _; rw [List.nil_append] at ho2))
  obtain ⟨A5, c5, e5⟩ := ho2.form
  generalize hn5 : (vb (List.take 7 l)).length = n5 at e5
  clear hn5
  subst e5
  go_ret3
  exact ⟨A5, n5, c5, rfl, ho2.reads, ((Below.refl _ _).alloc (Nat.le_refl _) _).trans hb2⟩
theorem bose_found {l : List Bool} {i j : Nat} (hl : l.length = 15) (hij : i ≤ j) (hj : j < 15) (hh : hitB (smA l) (smB l) i j = true) :
    ((xorL l (trn i j)).take 7).length = 7 ∧ difL (boseL ((xorL l (trn i j)).take 7)) l = if i < j then 2 else 1 := by
  have hc := hit_code hl hh
  have hlt := trn_len i j
  refine ⟨by rw [List.length_take, xorL_len (by omega), hl]; rfl, ?_⟩
  rw [← hc]
  unfold difL
  rw [xorL_comm, xor_cancel (by omega)]
  exact trn_ones hij hj
theorem bose_Fix_yes (A : Option Addr) (c : Nat) (l : List Bool) (w : World) (h : Reads w w.heap.size A 15 (vb l)) (h0 : Hid (¬ (smA l = 0 ∧ smB l = 0))) (hex : ∃ i j, i ≤ j ∧ j < 15 ∧ hitB (smA l) (smB l) i j = true) :
    Calls Try.prog 23 #[.slice A 15 c] w fun e w' => ∃ (d : List Bool) (z : Nat) (A1 : Option Addr) (n1 k1 : Nat), e = .returned (.tuple #[.slice A1 n1 k1, .int .i64 (z : Int), .int .i64 0]) ∧ Reads w' w'.heap.size A1 n1 (vb d) ∧ Below w.heap.size w w' ∧ Hid (d.length = 7) ∧ Hid (difL (boseL d) l = z) ∧ z ≤ 2 := by
  have H := h.bool_len
  refine (bose_Fix A c l w h h0).mono fun e w' hP => ?_
  rcases hP with ⟨i, j, hij, hj, hh, A1, n1, k1, rfl, hr, hb⟩ | ⟨hno, _, _⟩
  · obtain ⟨h7, hd⟩ := bose_found H hij hj hh
    refine ⟨_, if i < j then 2 else 1, A1, n1, k1, ?_, hr, hb, h7, hd, by split <;> omega⟩
    split <;> rfl
  · obtain ⟨i, j, hij, hj, hh⟩ := hex
    rw [hno i j hij hj] at hh
    cases hh
theorem bose_Fix_no (A : Option Addr) (c : Nat) (l : List Bool) (w : World) (h : Reads w w.heap.size A 15 (vb l)) (h0 : Hid (¬ (smA l = 0 ∧ smB l = 0))) (hex : ¬ ∃ i j, i ≤ j ∧ j < 15 ∧ hitB (smA l) (smB l) i j = true) :
    Calls Try.prog 23 #[.slice A 15 c] w fun e w' => e = .returned (.tuple #[.slice none 0 0, .int .i64 0, .int .i64 5]) ∧ Below w.heap.size w w' := by
  refine (bose_Fix A c l w h h0).mono fun e w' hP => ?_
  rcases hP with ⟨i, j, hij, hj, hh, _⟩ | ⟨hno, rfl, hb⟩
  · exact absurd ⟨i, j, hij, hj, hh⟩ hex
  · exact ⟨rfl, hb⟩
set_option maxHeartbeats 800000 in
theorem BoseFixes_walk (A : Option Addr) (n c : Nat) (l : List Bool) (w : World) (h : Reads w w.heap.size A n (vb l)) (hm : n * 1 ≤ reachBytes) (hcap : n ≤ c) :
    Calls Try.prog 7 #[.slice A n c] w (LawTrue w) := by
  have hn2 : n ≤ 140737488355328 := by have := reachBytes_lt; omega
  clear hm
  by_cases hn : n = 15
  · subst hn
    have H := Lib.hid h.bool_len
    by_cases h0 : smA l = 0 ∧ smB l = 0
    · have c1 := bose_Fix_zero A c l w hcap h h0.1 h0.2
      have hc := code_of H.out h0.1 h0.2
      have h7 : Hid ((l.take 7).length = 7) := by unfold Hid; rw [List.length_take, H.out]; rfl
      have hd0 : Hid (difL (boseL (l.take 7)) l = 0) := by unfold Hid difL; rw [← hc, xorL_self, H.out]; rfl
      have c2 := fun (w1 : World) (hb1 : Below w.heap.size w w1) => ref_Boses A c l (l.take 7) w1 ((h.below hb1).more hb1.size) h7 (by unfold Hid; rw [hd0.out]; omega)
      rw [hd0.out] at c2
      clear h0 hc
      generalize l.take 7 = d at *
      have c3 := fun (A1 A2 : Option Addr) (n1 n2 k1 k2 : Nat) (w2 : World) (g1 : Reads w2 w2.heap.size A1 n1 (vb d)) (g2 : Reads w2 w2.heap.size A2 n2 (vb d)) => ref_Bools A1 A2 n1 n2 k1 k2 d d true w2 g1 g2 (by have := g1.bool_len; have := h7.out; unfold maxLen; omega) (by simp [Hid])
      go_enter Try.func7, Try.ntmps7
      go_wp2_with (first
        | (go_at_call 23; refine c1.mono ?_; clear c1; rintro e w1 ⟨A1, n1, k1, rfl, hr1, hb1⟩; have c2 := c2 w1 hb1)
        | (go_at_call 24; refine c2.mono ?_; clear c2; rintro e w2 ⟨A2, n2, k2, rfl, hr2, hb2⟩; have c3 := c3 A1 A2 n1 n2 k1 k2 w2 ((hr1.below hb2).more hb2.size) hr2)
        | (go_at_call 25; refine c3.mono ?_; clear c3; rintro e w3 ⟨rfl, m3, rfl⟩))
      go_ret
      exact ⟨rfl, below_drewN (hb1.trans (hb2.mono hb1.size)) m3⟩
    · by_cases hex : ∃ i j, i ≤ j ∧ j < 15 ∧ hitB (smA l) (smB l) i j = true
      · have c1 := bose_Fix_yes A c l w h h0 hex
        clear h0 hex
        have c2 := fun (d : List Bool) (h7 : Hid (d.length = 7)) (hd : difL (boseL d) l ≤ 2) (w1 : World) (hb1 : Below w.heap.size w w1) => ref_Boses A c l d w1 ((h.below hb1).more hb1.size) h7 hd
        have c3 := fun (d : List Bool) (h7 : Hid (d.length = 7)) (A1 A2 : Option Addr) (n1 n2 k1 k2 : Nat) (w2 : World) (g1 : Reads w2 w2.heap.size A1 n1 (vb d)) (g2 : Reads w2 w2.heap.size A2 n2 (vb d)) => ref_Bools A1 A2 n1 n2 k1 k2 d d true w2 g1 g2 (by have := g1.bool_len; have := h7.out; unfold maxLen; omega) (by simp [Hid])
        go_enter Try.func7, Try.ntmps7
        go_wp2_with (first
          | (go_at_call 23; refine c1.mono ?_; clear c1; rintro e w1 ⟨d, z, A1, n1, k1, rfl, hr1, hb1, h7, hd, hz⟩; have hzi : (0 : Int) ≤ (z : Int) := (by omega); have c2 := c2 d h7 (by rw [hd.out]; exact hz) w1 hb1; rw [hd.out] at c2)
          | (go_at_call 24; refine c2.mono ?_; clear c2; rintro e w2 ⟨A2, n2, k2, rfl, hr2, hb2⟩; have c3 := c3 d h7 A1 A2 n1 n2 k1 k2 w2 ((hr1.below hb2).more hb2.size) hr2)
          | (go_at_call 25; refine c3.mono ?_; clear c3; rintro e w3 ⟨rfl, m3, rfl⟩))
        go_ret
        exact ⟨rfl, below_drewN (hb1.trans (hb2.mono hb1.size)) m3⟩
      · have c1 := bose_Fix_no A c l w h h0 hex
        have hno : Hid (∀ x, x < 128 → ¬ difL (boseL (digitsL x 7)) l ≤ 2) := fun x hx h2 => hex (near_hit H.out (digitsL_len x 7) h2 h0)
        have c2 := fun (w1 : World) (hb1 : Below w.heap.size w w1) => ref_Boses_none A c l w1 ((h.below hb1).more hb1.size) hno
        clear h0 hex
        go_enter Try.func7, Try.ntmps7
        go_wp2_with (first
          | (go_at_call 23; refine c1.mono ?_; clear c1; rintro e w1 ⟨rfl, hb1⟩; have c2 := c2 w1 hb1)
          | (go_at_call 24; refine c2.mono ?_; clear c2; rintro e w2 ⟨A2, n2, k2, rfl, hr2, hb2⟩))
        go_ret
        exact ⟨rfl, hb1.trans (hb2.mono hb1.size)⟩
  · have ht : ((n : Int) != 15) = true := by simp; omega
    clear hn
    have cb : Calls Try.prog 23 #[.slice A n c] w (Ret w (.tuple #[.slice none 0 0, .int .i64 0, .int .i64 3])) := by
      go_enter Try.func23, Try.ntmps23
      go_wp2
      go_ret3
      exact ⟨rfl, rfl⟩
    go_enter Try.func7, Try.ntmps7
    go_wp2_with (go_at_call 23; refine cb.mono ?_; rintro e w1 ⟨rfl, rfl⟩)
    go_ret
    exact .same _
end Go.Proofs.Ythbmnaonnebnhaa

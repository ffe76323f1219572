import Derived.Test.YtmepiiheidmbgaaKraftr
import Derived.Test.YtmepiiheidmbgaaLists
set_option linter.unusedVariables false
namespace Go.Proofs.Ytmepiiheidmbgaa
open Go.RowKit Go.Shelf Go.Sort

theorem lens_natsK {l : List Int} (h : lensErr l = 0) : l.length ≤ 8 ∧ ∃ ns : List Nat, vi .i64 l = vn .i64 ns ∧ (∀ x ∈ ns, x ≤ 8) ∧ kraftOf l = (kTot ns : Int) := by
  unfold lensErr at h
  split at h
  · omega
  split at h
  · rename_i h8 hall
    rw [List.all_eq_true] at hall
    have hok : ∀ z ∈ l, 0 ≤ z ∧ z ≤ 8 := fun z hz => by have := hall z hz; simp [okLen] at this; exact this
    have e : l = (l.map Int.toNat).map (fun x : Nat => (x : Int)) := by
      rw [List.map_map]
      conv => lhs; rw [← List.map_id l]
      apply List.map_congr_left
      intro z hz
      have := hok z hz
      simp; omega
    refine ⟨by omega, l.map Int.toNat, ?_, ?_, ?_⟩
    · conv => lhs; rw [e]
      unfold vi vn
      rw [List.map_map]; rfl
    · intro x hx
      obtain ⟨z, hz, rfl⟩ := List.mem_map.1 hx
      have := hok z hz
      omega
    · clear h e h8 hall
      induction l with
      | nil => rfl
      | cons a t ih =>
        have ha := hok a (List.mem_cons_self ..)
        have iht := ih (fun z hz => hok z (List.mem_cons_of_mem _ hz))
        unfold kraftOf kTot at *
        simp only [List.map_cons, List.sum_cons]
        rw [iht]
        unfold part
        have e1 : (8 - a).toNat = 8 - a.toNat := by omega
        rw [e1]; push_cast; rfl
  · omega
set_option maxHeartbeats 400000 in
theorem kraft_Make_err (A : Option Addr) (n c : Nat) (l : List Int) (q z : Int) (w : World) (cs : ∀ W, RowKit.Below w.heap.size w W → Calls Try.prog 66 #[.slice A n c] W (Ret W (.tuple #[.int .i64 q, .int .i64 z]))) (h0 : (z != 0) = true) :
    Calls Try.prog 39 #[.slice A n c] w (RetB w (.tuple #[.slice none 0 0, .int .i64 z])) := by
  have hb1 : RowKit.Below w.heap.size w (w.alloc (.cells #[.slice A n c] 50)) := (RowKit.Below.refl _ w).alloc (Nat.le_refl _) _
  go_enter Try.func39, Try.ntmps39
  go_wp2_with (go_at_call 66; refine (cs _ hb1).mono ?_; clear cs; rintro e w' ⟨rfl, rfl⟩)
  go_ret2
  exact ⟨rfl, hb1⟩
theorem kraft_Make_over (A : Option Addr) (n c S : Nat) (w : World) (cs : ∀ W, RowKit.Below w.heap.size w W → Calls Try.prog 66 #[.slice A n c] W (Ret W (.tuple #[.int .i64 (S : Int), .int .i64 0]))) (h0 : 256 < S) :
    Calls Try.prog 39 #[.slice A n c] w (RetB w (.tuple #[.slice none 0 0, .int .i64 5])) := by
  have hb1 : RowKit.Below w.heap.size w (w.alloc (.cells #[.slice A n c] 50)) := (RowKit.Below.refl _ w).alloc (Nat.le_refl _) _
  have i1 : (256 : Int) < (S : Int) := by omega
  go_enter Try.func39, Try.ntmps39
  go_wp2_with (go_at_call 66; refine (cs _ hb1).mono ?_; clear cs; rintro e w' ⟨rfl, rfl⟩)
  go_ret2
  exact ⟨rfl, hb1⟩
set_option maxHeartbeats 800000 in
theorem KraftMakes_walk (A : Option Addr) (n c : Nat) (l : List Int) (w : World) (h : Reads w w.heap.size A n (vi .i64 l)) (_ : ∀ z ∈ l, (Lit.int .i64 z).wf = true) (_ : n * 8 ≤ reachBytes) :
    Calls Try.prog 12 #[.slice A n c] w (LawTrue w) := by
  by_cases h0 : lensErr l = 0
  · have cs := fun (W : World) (hb : RowKit.Below w.heap.size w W) => kraft_Sum A n c l (kraftOf l) 0 W ((h.below hb).more hb.size) (by unfold Hid sumRes; rw [h0]; rfl)
    have c2 := fun (w1 : World) (hb : RowKit.Below w.heap.size w w1) => ref_LensCheck A n c l 0 w1 ((h.below hb).more hb.size) h0
    have c5 := fun (w1 : World) (hb : RowKit.Below w.heap.size w w1) => ref_Kraft A n c l (kraftOf l) w1 ((h.below hb).more hb.size) h0 rfl
    obtain ⟨h8, ns, e2, hl, e3⟩ := lens_natsK h0
    have hn : n ≤ 8 := by rw [← h.int_len]; exact h8
    have hr := h
    rw [e2] at hr
    rw [e3] at cs c5
    obtain ⟨S, hS⟩ : ∃ S, S = kTot ns := ⟨_, rfl⟩
    rw [← hS] at cs c5
    by_cases hbig : 256 < S
    · have c1 := kraft_Make_over A n c S w cs hbig
      have i1 : (256 : Int) < (S : Int) := by omega
      clear cs hS e2 e3 hl hr h h0
      go_enter Try.func12, Try.ntmps12
      go_wp2_with (first
        | (go_at_call 39; refine c1.mono ?_; clear c1; rintro e w1 ⟨rfl, hb1⟩; have c2 := c2 w1 hb1; have c5 := c5 w1 hb1)
        | (go_at_call 40; refine c2.mono ?_; rintro e w' ⟨rfl, rfl⟩)
        | (go_at_call 41; refine c5.mono ?_; rintro e w' ⟨rfl, rfl⟩))
      go_ret
      exact ⟨rfl, hb1⟩
    · have hS256 : S ≤ 256 := by omega
      have i1 : ¬ (256 : Int) < (S : Int) := by omega
      have c1 : Calls Try.prog 39 #[.slice A n c] w (PostK w 23 (fun A' n' c' => .returned (.tuple #[.slice A' n' c', .int .i64 0])) (kmC ns)) := by
        rcases Nat.eq_zero_or_pos n with hz | hz
        · subst hz
          have e4 : ns = [] := List.eq_nil_of_length_eq_zero hr.nat_len
          rw [e4]
          exact kraft_Make0 A c S w hS256 cs
        · exact kraft_Make A n c S (n - 1) ns w hr hn (show n = n - 1 + 1 by omega) hl hS256 hS cs
      have c3 := fun (w1 : World) (hb : RowKit.Below w.heap.size w w1) => ref_Shortest A n c ns w1 ((hr.below hb).more hb.size) hn hl (show kTot ns ≤ 256 by omega)
      have hnl := hr.nat_len
      have hls : ∀ l ∈ kmC ns, l.length ≤ 8 := by
        intro l hl2
        unfold kmC at hl2
        obtain ⟨j, hj, rfl⟩ := List.mem_map.1 hl2
        rw [kmW_len, List.getD_eq_getElem?_getD, List.getElem?_eq_getElem (List.mem_range.1 hj)]
        exact hl _ (List.getElem_mem _)
      have c4 := fun (A1 A2 : Option Addr) (n1 n2 k1 k2 : Nat) (w2 : World) (g1 : Rows w2 w2.heap.size A1 n1 ((kmC ns).map vb)) (g2 : Rows w2 w2.heap.size A2 n2 ((kmC ns).map vb)) (hn1 : n1 ≤ 8) => ref_Lists A1 A2 n1 n2 k1 k2 (kmC ns) (kmC ns) true w2 g1 g2 (by omega) (fun l hl => by have := hls l hl; omega) (by simp [Hid])
      generalize kmC ns = ls at *
      clear cs hS e2 e3 hl hr h h0 hls hnl
      go_enter Try.func12, Try.ntmps12
      go_wp2_with (first
        | (go_at_call 39; refine c1.mono ?_; clear c1; rintro e w1 ⟨hb1, A1, n1, k1, rfl, ho1, hm1⟩; have c2 := c2 w1 hb1; have c3 := c3 w1 hb1; have c5 := c5 w1 hb1)
        | (go_at_call 40; refine c2.mono ?_; rintro e w' ⟨rfl, rfl⟩)
        | (go_at_call 41; refine c5.mono ?_; rintro e w' ⟨rfl, rfl⟩)
        | (go_at_call 42; refine c3.mono ?_; clear c3; rintro e w2 ⟨hb2, A2, n2, k2, rfl, ho2, hm2⟩; have c4 := c4 A1 A2 n1 n2 k1 k2 w2 ((ho1.rows.below hb2).more hb2.size) ho2.rows hm1)
        | (go_at_call 20; refine c4.mono ?_; rintro e w3 ⟨rfl, m, rfl⟩))
      go_ret
      exact ⟨rfl, below_drewN (hb1.trans (hb2.mono hb1.size)) _⟩
  · have hz : (lensErr l != 0) = true := by simpa using h0
    have cs := fun (W : World) (hb : RowKit.Below w.heap.size w W) => kraft_Sum A n c l _ (lensErr l) W ((h.below hb).more hb.size) (show Hid (sumRes l = (_, lensErr l)) from by unfold Hid sumRes; rfl)
    have c1 := kraft_Make_err A n c l _ (lensErr l) w cs hz
    have c2 := fun (w1 : World) (hb : RowKit.Below w.heap.size w w1) => ref_LensCheck A n c l (lensErr l) w1 ((h.below hb).more hb.size) rfl
    clear cs h0
    generalize lensErr l = z at *
    have hz2 : ¬ z = 0 := by simpa using hz
    have hz3 : (z == 0) = false := by simpa using hz2
    go_enter Try.func12, Try.ntmps12
    go_wp2_with (first
      | (go_at_call 39; refine c1.mono ?_; clear c1; rintro e w1 ⟨rfl, hb1⟩; have c2 := c2 w1 hb1)
      | (go_at_call 40; refine c2.mono ?_; rintro e w' ⟨rfl, rfl⟩))
    go_ret
    exact ⟨rfl, hb1⟩
end Go.Proofs.Ytmepiiheidmbgaa

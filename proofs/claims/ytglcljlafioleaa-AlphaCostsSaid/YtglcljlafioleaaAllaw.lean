/-
  alpha.Cost, alpha.Lens; the laws AlphaCosts, AlphaLens.
-/
import Derived.Test.YtglcljlafioleaaAllens
import Derived.Test.YtglcljlafioleaaAltu
import Derived.Test.YtglcljlafioleaaInts
set_option linter.unusedVariables false
namespace Go.Proofs.Ytglcljlafioleaa
open Go.RowKit

theorem segL_all (ws : List Nat) : segL ws 0 ws.length = ws := by unfold segL; simp
theorem vn_viA (l : List Nat) : vn .i64 l = vi .i64 (l.map fun (x : Nat) => (x : Int)) := by unfold vn vi; rw [List.map_map]; rfl
theorem upD_zero (l : List Nat) : upD 0 l = l := by unfold upD; simp
set_option maxHeartbeats 400000 in
theorem alpha_Cost_err (A : Option Addr) (n c : Nat) (l : List Int) (z : Int) (w : World) (h : Reads w w.heap.size A n (vi .i64 l)) (hn : n ≤ maxLen) (hz : Hid (wtsErr l = z)) (h0 : (z != 0) = true) :
    Calls Try.prog 15 #[.slice A n c] w (RetQ w (.tuple #[.int .i64 0, .int .i64 z])) := by
  have ck := huff_Check A n c l z w h hn hz
  go_enter Try.func15, Try.ntmps15
  go_wp2_with (go_at_call 30; refine ck.mono ?_; rintro e w' ⟨rfl, m, rfl⟩)
  go_ret2
  exact ⟨rfl, m, rfl⟩
set_option maxHeartbeats 400000 in
theorem alpha_Lens_err (A : Option Addr) (n c : Nat) (l : List Int) (z : Int) (w : World) (h : Reads w w.heap.size A n (vi .i64 l)) (hn : n ≤ maxLen) (hz : Hid (wtsErr l = z)) (h0 : (z != 0) = true) :
    Calls Try.prog 18 #[.slice A n c] w (RetQ w (.tuple #[.slice none 0 0, .int .i64 z])) := by
  have ck := huff_Check A n c l z w h hn hz
  go_enter Try.func18, Try.ntmps18
  go_wp2_with (go_at_call 30; refine ck.mono ?_; rintro e w' ⟨rfl, m, rfl⟩)
  go_ret2
  exact ⟨rfl, m, rfl⟩
set_option maxHeartbeats 800000 in
theorem alpha_Cost (A : Option Addr) (n c : Nat) (l : List Int) (ws : List Nat) (w : World) (h : Reads w w.heap.size A n (vi .i64 l)) (hz : Hid (wtsErr l = 0)) (hv : vi .i64 l = vn .i64 ws) (hn : n ≤ 8) (hcap : n ≤ c) (hw : ∀ x ∈ ws, x ≤ 1048576) :
    Calls Try.prog 15 #[.slice A n c] w (fun e w' => e = .returned (.tuple #[.int .i64 (bestC ws : Int), .int .i64 0]) ∧ Below w.heap.size w w') := by
  have ck := huff_Check A n c l 0 w h (by unfold maxLen; omega) hz
  rw [hv] at h
  have hl := h.nat_len
  have cr := fun m => alpha_reckon A n c ws (w.drewN m) (h.drewN m) hn hcap hw
  have hbest : Hid (bestC (segL ws 0 n) = bestC ws) := by unfold Hid; rw [← hl, segL_all]
  clear hv hw hl h
  have i0 : (0 : Int) ≤ (n : Int) := by omega
  have i1 : (n : Int) < ((n + 1 : Nat) : Int) := by omega
  have i2 : (0 : Int) < ((n + 1 : Nat) : Int) := by omega
  have i3 : (0 : Int) < (n : Int) + 1 := by omega
  go_enter Try.func15, Try.ntmps15
  go_wp2_with (first
    | (go_at_call 30; refine ck.mono ?_; rintro e w' ⟨rfl, m, rfl⟩)
    | (go_at_call 31; refine (cr _).mono ?_; clear cr; rintro e w1 ⟨hb, gr, f, rfl, ht, hbel, hf⟩; have ht : TabK w1 w.heap.size hb (n + 1) (n + 1) gr (.slice A n c) f := ht; have c1 := ht.tab; have c2 := ht.rowAt (i := 0) (by omega) (by omega); have c3 := ht.cellAt (i := 0) (j := n) (by omega) (by omega); rw [hf.out _ _ (Nat.le_refl _), hbest.out] at c3))
  go_ret2
  exact ⟨rfl, (below_drewN (Below.refl _ w) m).trans hbel⟩
set_option maxHeartbeats 800000 in
theorem alpha_Lens (A : Option Addr) (n c : Nat) (l : List Int) (ws : List Nat) (w : World) (h : Reads w w.heap.size A n (vi .i64 l)) (hz : Hid (wtsErr l = 0)) (hv : vi .i64 l = vn .i64 ws) (hn : n ≤ 8) (hcap : n ≤ c) (hw : ∀ x ∈ ws, x ≤ 1048576) :
    Calls Try.prog 18 #[.slice A n c] w (fun e w' => ∃ A' n' c', e = .returned (.tuple #[.slice A' n' c', .int .i64 0]) ∧ Reads w' w'.heap.size A' n' (vn .i64 (bestL ws)) ∧ Below w.heap.size w w') := by
  have ck := huff_Check A n c l 0 w h (by unfold maxLen; omega) hz
  rw [hv] at h
  have hl := h.nat_len
  have cr := fun m => alpha_reckon A n c ws (w.drewN m) (h.drewN m) hn hcap hw
  have cl := fun (b0 hb : Nat) (gr : Nat → Nat) (f : Nat → Nat → Nat) (hf : Hid (∀ a b, b ≤ n → f a b = bestC (segL ws a b))) => alpha_lens b0 hb (n + 1) n c gr A ws f rfl hn hl hcap hw hf
  have hseg : Hid (segL ws 0 n = ws) := by unfold Hid; rw [← hl, segL_all]
  rcases Nat.eq_zero_or_pos n with rfl | hpos
  · obtain rfl : ws = [] := List.eq_nil_of_length_eq_zero hl
    have hbl : bestL [] = [] := (best_small (ws := []) (by simp)).2
    clear cl hv hl h
    have z0 : (0 : Int) - 0 < 2 := by omega
    have cl0 : ∀ (w1 : World) (hb : Nat), Calls Try.prog 35 #[.pointer (some ⟨hb, 0, none⟩), .int .i64 0, .int .i64 0, .int .i64 0] w1 (fun e w' => ∃ A' c', e = .returned (.slice A' 0 c') ∧ Below w1.heap.size w1 w') := by
      intro w1 hb
      go_enter Try.func35, Try.ntmps35
      go_wp2
      go_ret
      exact ⟨_, 1, rfl, (Below.refl _ _).alloc (Nat.le_refl _) _⟩
    go_enter Try.func18, Try.ntmps18
    go_wp2_with (first
      | (go_at_call 30; refine ck.mono ?_; rintro e w' ⟨rfl, m, rfl⟩)
      | (go_at_call 31; refine (cr _).mono ?_; clear cr; rintro e w1 ⟨hb, gr, f, rfl, ht, hbel, hf⟩)
      | (go_at_call 35; refine (cl0 _ _).mono ?_; clear cl0; rintro e w2 ⟨A', c', rfl, hb2⟩))
    go_ret2
    have hB := (below_drewN (Below.refl w.heap.size w) m).trans hbel
    exact ⟨A', 0, c', rfl, by rw [hbl]; exact ⟨rfl, fun h => absurd h (by omega)⟩, hB.trans (hb2.mono hB.size)⟩
  · have HRD := Lib.hid h
    clear hv hl h
    go_enter Try.func18, Try.ntmps18
    go_wp2_with (first
      | (go_at_call 30; refine ck.mono ?_; rintro e w' ⟨rfl, m, rfl⟩)
      | (go_at_call 31; refine (cr _).mono ?_; clear cr; rintro e w1 ⟨hb, gr, f, rfl, ht, hbel, hf⟩; have hB : Below w.heap.size w w1 := (below_drewN (Below.refl w.heap.size w) m).trans hbel; have cl := cl _ hb gr f hf n 0 n 0 (by omega) hpos (Nat.le_refl _) (by omega) w1 ht ((HRD.out.below hB).more hB.size); rw [hseg.out, upD_zero] at cl)
      | (go_at_call 35; refine cl.mono ?_; clear cl; rintro e w2 ⟨A', n', c', rfl, ho2, hb2⟩))
    go_ret2
    exact ⟨A', n', c', rfl, ho2.reads, hB.trans (hb2.mono hB.size)⟩
set_option maxHeartbeats 800000 in
theorem AlphaCosts_walk (A : Option Addr) (n c : Nat) (l : List Int) (w : World) (h : Reads w w.heap.size A n (vi .i64 l)) (_ : ∀ z ∈ l, (Lit.int .i64 z).wf = true) (hr : n * 8 ≤ reachBytes) (hcap : n ≤ c) :
    Calls Try.prog 5 #[.slice A n c] w (LawTrue w) := by
  have hml : n ≤ maxLen := by unfold reachBytes at hr; unfold maxLen; omega
  by_cases h0 : wtsErr l = 0
  · obtain ⟨h8, ws, hv, hl, hw⟩ := wts_ok h0
    rw [h.int_len] at h8
    have c1 := alpha_Cost A n c l ws w h h0 hv h8 hcap hw
    have c2 := fun (w' : World) (hb : Below w.heap.size w w') => ref_WeightsCheck A n c l 0 w' (h.below hb) hml h0
    have c3 := fun (w' : World) (hb : Below w.heap.size w w') => ref_Alpha A n c ws w' (by rw [← hv]; exact (h.below hb).more hb.size) h8 hw
    clear h0 hv hw hl
    go_enter Try.func5, Try.ntmps5
    go_wp2_with (first | (go_at_call 15; refine c1.mono ?_; rintro e w1 ⟨rfl, hb1⟩) | (go_at_call 16; refine (c2 _ hb1).mono ?_; rintro e w' ⟨rfl, rfl⟩) | (go_at_call 17; refine (c3 _ hb1).mono ?_; rintro e w2 ⟨A2, n2, k2, rfl, hr2, hm2, hb2⟩))
    go_ret
    exact ⟨by first | rfl | simp, hb1.trans (hb2.mono hb1.size)⟩
  · have hz : (wtsErr l != 0) = true := by simpa using h0
    have c1 := alpha_Cost_err A n c l (wtsErr l) w h hml rfl hz
    have c2 := fun m => ref_WeightsCheck A n c l (wtsErr l) (w.drewN m) (h.drewN m) hml rfl
    clear h0
    generalize wtsErr l = z at *
    go_enter Try.func5, Try.ntmps5
    go_wp2_with (first | (go_at_call 15; refine c1.mono ?_; rintro e w1 ⟨rfl, m, rfl⟩) | (go_at_call 16; refine (c2 _).mono ?_; rintro e w' ⟨rfl, rfl⟩))
    go_ret
    exact .drewN _ _
set_option maxHeartbeats 800000 in
theorem AlphaLens_walk (A : Option Addr) (n c : Nat) (l : List Int) (w : World) (h : Reads w w.heap.size A n (vi .i64 l)) (_ : ∀ z ∈ l, (Lit.int .i64 z).wf = true) (hr : n * 8 ≤ reachBytes) (hcap : n ≤ c) :
    Calls Try.prog 6 #[.slice A n c] w (LawTrue w) := by
  have hml : n ≤ maxLen := by unfold reachBytes at hr; unfold maxLen; omega
  by_cases h0 : wtsErr l = 0
  · obtain ⟨h8, ws, hv, hl, hw⟩ := wts_ok h0
    rw [h.int_len] at h8
    have c1 := alpha_Lens A n c l ws w h h0 hv h8 hcap hw
    have c2 := fun (w' : World) (hb : Below w.heap.size w w') => ref_WeightsCheck A n c l 0 w' (h.below hb) hml h0
    have c3 := fun (w' : World) (hb : Below w.heap.size w w') => ref_Alpha A n c ws w' (by rw [← hv]; exact (h.below hb).more hb.size) h8 hw
    have hlen : Hid ((bestL ws).length ≤ 8) := by unfold Hid; rw [best_len (by rw [hl, h.int_len]; exact h8), hl, h.int_len]; exact h8
    clear h0 hv hw hl
    go_enter Try.func6, Try.ntmps6
    go_wp2_with (first | (go_at_call 18; refine c1.mono ?_; rintro e w1 ⟨A1, n1, k1, rfl, hr1, hb1⟩; have hn1 : n1 ≤ 8 := (by have := hlen.out; have := hr1.nat_len; omega)) | (go_at_call 16; refine (c2 _ hb1).mono ?_; rintro e w' ⟨rfl, rfl⟩) | (go_at_call 17; refine (c3 _ hb1).mono ?_; rintro e w2 ⟨A2, n2, k2, rfl, hr2, hm2, hb2⟩; rw [vn_viA] at hr1 hr2; have cI := ref_Ints A1 A2 n1 n2 k1 k2 _ _ true w2 (hr1.below hb2) hr2 (by unfold maxLen; omega) (by simp [Hid])) | (go_at_call 19; refine cI.mono ?_; clear cI; rintro e w3 ⟨rfl, m3, rfl⟩))
    go_ret
    exact ⟨by first | rfl | simp, below_drewN (hb1.trans (hb2.mono hb1.size)) _⟩
  · have hz : (wtsErr l != 0) = true := by simpa using h0
    have c1 := alpha_Lens_err A n c l (wtsErr l) w h hml rfl hz
    have c2 := fun m => ref_WeightsCheck A n c l (wtsErr l) (w.drewN m) (h.drewN m) hml rfl
    clear h0
    generalize wtsErr l = z at *
    go_enter Try.func6, Try.ntmps6
    go_wp2_with (first | (go_at_call 18; refine c1.mono ?_; rintro e w1 ⟨rfl, m, rfl⟩) | (go_at_call 16; refine (c2 _).mono ?_; rintro e w' ⟨rfl, rfl⟩))
    go_ret
    exact .drewN _ _
end Go.Proofs.Ytglcljlafioleaa

/-
  quipuref.Splits where a flag stands ahead.
-/
import Derived.Test.YtmepiiheidmbgaaSplitr
set_option linter.unusedVariables false
namespace Go.Proofs.Ytmepiiheidmbgaa
open Go.RowKit

theorem OwnR.two {w : World} {base : Nat} {E : TypeId} {A : Option Addr} {n c : Nat} {ls : List (List Bool)} (h : OwnR w base E (.slice A n c) (ls.map vb)) : Reads2 w w.heap.size A n ls := by
  obtain ⟨vs, ho, hl, he⟩ := h
  refine ⟨vs, ho.reads, by rw [hl, List.length_map], fun k l hk => ?_⟩
  obtain ⟨A', n', c', e, h2, h3, _⟩ := he k (vb l) (by rw [List.getElem?_map, hk]; rfl)
  exact ⟨A', n', c', e, h2, h3⟩
set_option maxRecDepth 100000 in
set_option maxHeartbeats 2000000 in
theorem ref_Splits_yes (ad : Addr) (n c : Nat) (l : List Bool) (w : World) (h : Reads w w.heap.size (some ad) n (vb l)) (hc : n ≤ c) (hn : n ≤ 1000) (hb : Hid (atF l = true)) (R : Option (List (List Bool))) (hRR : Hid (splitR l = R)) :
    Calls Try.prog 19 #[.slice (some ad) n c] w (fun e w' => SprP w e w' R) := by
  have H := Lib.hid h.bool_len
  have h8 : 8 ≤ n := by have := atF_len hb.out; have := H.out; omega
  go_enter Try.func19, Try.ntmps19
  go_wp2
  go_loopw [4, 5, 6] (fun tv sv iv wr => ∃ i : Nat, iv = .int .i64 (i : Int) ∧ i ≤ n + 1 ∧ Below w.heap.size w wr ∧ ((i = 0 ∧ tv = .slice none 0 0 ∧ sv = .int .i64 (-1)) ∨ ∃ (s f : Nat) (T : List (List Bool)), 0 < i ∧ sv = .int .i64 (s : Int) ∧ OwnR wr w.heap.size 23 tv (T.map vb) ∧ Hid (SpK l i s f T))) (fun _ _ iv _ => n + 1 - (intOf iv).toNat)
  case atStart => exact ⟨0, rfl, by omega, Below.refl _ _, .inl ⟨rfl, rfl, rfl⟩⟩
  case round =>
    obtain ⟨i, rfl, hi, hbel, hcase⟩ := hrel
    by_cases hlt : i + 8 ≤ n
    · have j1 : ((i : Int) + 8) ≤ (n : Int) := by omega
      have hwr : IntKind.i64.wrap ((i : Int) + 8) = ((i + 8 : Nat) : Int) := by rw [IntKind.wrap_i64]; omega
      have hwr8 : IntKind.i64.wrap ((i : Int) - 8) = (i : Int) - 8 := by rw [IntKind.wrap_i64]; omega
      have hR : Reads wr w.heap.size (some (ad.add i)) (((i : Int) + 8).toNat - i) (vb ((l.drop i).take 8)) := by
        rw [show ((i : Int) + 8).toNat - i = 8 by omega]; exact ((h.below hbel).dropP (k := i) (by omega)).takeP (by omega)
      have hmx8 : ((i : Int) + 8).toNat - i ≤ maxLen := by unfold maxLen; omega
      have cf := fun (W : World) => ref_Flag W
      have j2 : ((i : Int) + 8) ≤ (c : Int) := by omega
      have j3 : (i : Int) ≤ (i : Int) + 8 := by omega
      have j4 : ¬ c = i := by omega
      have j5 : ¬ c ≤ i := by omega
      have j6 : i + 8 ≤ c := by omega
      have j7 : i + 8 ≤ n := by omega
      have j8 : i ≤ i + 8 := by omega
      have j9 : (0 : Int) ≤ (i : Int) := by omega
      rcases hcase with ⟨hi0, rfl, rfl⟩ | ⟨s, f, T, hi0, rfl, hown, hk⟩
      · have hat : atF (l.drop i) = true := by rw [hi0]; exact hb.out
        have hS : Hid (SpK l (i + 1) i 1000 []) := by unfold Hid; rw [hi0]; exact SpK.start hb.out (by rw [H.out]; omega)
        have j10 : ¬ (0 : Int) < (i : Int) := by omega
        have j11 : (i : Int) - 8 < -1 := by omega
        clear hi0
        go_wp2
        refine wp_region_any (by kernel_rfl) ?_
        try (change wpAny _ _ _ _ _ _ _ (World.drew _))
        (refine wpAny_take (i := 0) (v := ?_) rfl (by kernel_rfl) (by kernel_rfl) (by kernel_rfl) (fun _ _ _ h => h) (Or.inl ⟨by first | (go_simp; done) | rfl, ?_⟩) ?_; rotate_left 1; (intro w; go_simp; try rfl))
        (refine wpAny_take (i := 1) (v := ?_) rfl (by kernel_rfl) (by kernel_rfl) (by kernel_rfl) (fun _ _ _ h => h) (Or.inl ⟨by first | (go_simp; done) | rfl, ?_⟩) ?_; rotate_left 1; (intro w; go_simp; try rfl))
        (refine wpAny_take (i := 2) (v := ?_) rfl (by kernel_rfl) (by kernel_rfl) (by kernel_rfl) (fun _ _ _ h => h) (Or.inl ⟨by first | (go_simp; done) | rfl, ?_⟩) ?_; rotate_left 1; (intro w; go_simp; try rfl))
        (refine wpAny_take (i := 3) (v := ?_) rfl (by kernel_rfl) (by kernel_rfl) (by kernel_rfl) (fun _ _ _ h => h) (Or.inl ⟨by first | (go_simp; done) | rfl, ?_⟩) ?_; rotate_left 1; (intro w; go_simp; try rfl))
        (refine wpAny_take (i := 4) (v := ?_) rfl (by kernel_rfl) (by kernel_rfl) (by kernel_rfl) (fun _ _ _ h => h) (Or.inl ⟨by first | (go_simp; done) | rfl, ?_⟩) ?_; rotate_left 1; (intro w; go_simp; try rfl))
        refine wpAny_ready (rs := [5]) (by kernel_rfl) (by simp) ?_
        refine AllReady.cons rfl (fun K hK => ?_) AllReady.nil
        go_simp
        (go_at_call 53; refine (cf _).mono ?_; clear cf; rintro e w1 ⟨A1, n1, k1, rfl, ho1, hb1⟩)
        try go_simp
        try (refine hK _ _ ?_; clear hK K)
        refine wpAny_ready (rs := [6]) (by kernel_rfl) (by simp) ?_
        refine AllReady.cons rfl (fun K hK => ?_) AllReady.nil
        go_simp
        (go_at_call 16; refine (ref_Bools _ _ _ _ _ _ _ _ true _ (hR.drew.below (hb1.mono hbel.size)) ho1.reads hmx8 hat).mono ?_; rintro e w2 ⟨rfl, m, rfl⟩)
        try go_simp
        try (refine hK _ _ ?_; clear hK K)
        (refine wpAny_take (i := 7) (v := ?_) rfl (by kernel_rfl) (by kernel_rfl) (by kernel_rfl) (fun _ _ _ h => h) (Or.inl ⟨by first | (go_simp; done) | rfl, ?_⟩) ?_; rotate_left 1; (intro w; go_simp; try rfl))
        (refine wpAny_take (i := 8) (v := ?_) rfl (by kernel_rfl) (by kernel_rfl) (by kernel_rfl) (fun _ _ _ h => h) (Or.inl ⟨by first | (go_simp; done) | rfl, ?_⟩) ?_; rotate_left 1; (intro w; go_simp; try rfl))
        try go_simp
        (refine wpAny_take (i := 9) (v := ?_) rfl (by kernel_rfl) (by kernel_rfl) (by kernel_rfl) (fun _ _ _ h => h) (Or.inl ⟨by first | (go_simp; done) | rfl, ?_⟩) ?_; rotate_left 1; (intro w; go_simp; try rfl))
        (refine wpAny_take (i := 10) (v := ?_) rfl (by kernel_rfl) (by kernel_rfl) (by kernel_rfl) (fun _ _ _ h => h) (Or.inl ⟨by first | (go_simp; done) | rfl, ?_⟩) ?_; rotate_left 1; (intro w; go_simp; try rfl))
        (refine wpAny_take (i := 11) (v := ?_) rfl (by kernel_rfl) (by kernel_rfl) (by kernel_rfl) (fun _ _ _ h => h) (Or.inl ⟨by first | (go_simp; done) | rfl, ?_⟩) ?_; rotate_left 1; (intro w; go_simp; try rfl))
        try go_simp
        (refine wpAny_take (i := 12) (v := ?_) rfl (by kernel_rfl) (by kernel_rfl) (by kernel_rfl) (fun _ _ _ h => h) (Or.inl ⟨by first | (go_simp; done) | rfl, ?_⟩) ?_; rotate_left 1; (intro w; go_simp; try rfl))
        (refine wpAny_take (i := 13) (v := ?_) rfl (by kernel_rfl) (by kernel_rfl) (by kernel_rfl) (fun _ _ _ h => h) (Or.inl ⟨by first | (go_simp; done) | rfl, ?_⟩) ?_; rotate_left 1; (intro w; go_simp; try rfl))
        (refine wpAny_take (i := 14) (v := ?_) rfl (by kernel_rfl) (by kernel_rfl) (by kernel_rfl) (fun _ _ _ h => h) (Or.inl ⟨by first | (go_simp; done) | rfl, ?_⟩) ?_; rotate_left 1; (intro w; go_simp; try rfl))
        try go_simp
        (refine wpAny_take (i := 15) (v := ?_) rfl (by kernel_rfl) (by kernel_rfl) (by kernel_rfl) (fun _ _ _ h => h) (Or.inl ⟨by first | (go_simp; done) | rfl, ?_⟩) ?_; rotate_left 1; (intro w; go_simp; try rfl))
        (refine wpAny_take (i := 16) (v := ?_) rfl (by kernel_rfl) (by kernel_rfl) (by kernel_rfl) (fun _ _ _ h => h) (Or.inl ⟨by first | (go_simp; done) | rfl, ?_⟩) ?_; rotate_left 1; (intro w; go_simp; try rfl))
        (refine wpAny_take (i := 17) (v := ?_) rfl (by kernel_rfl) (by kernel_rfl) (by kernel_rfl) (fun _ _ _ h => h) (Or.inl ⟨by first | (go_simp; done) | rfl, ?_⟩) ?_; rotate_left 1; (intro w; go_simp; try rfl))
        refine wpAny_done (by kernel_rfl) ?_ _
        go_wp2
        have hw2 : Below w.heap.size w (w1.drewN m) := below_drewN (hbel.drew.trans (hb1.mono hbel.size)) m
        go_roundw
        case rel => exact ⟨i + 1, by go_num, by omega, hw2, .inr ⟨i, 1000, [], by omega, rfl, OwnR.nil _ _ _, hS⟩⟩
        case measure => simp [intOf]; omega
      · have j10 : (0 : Int) < (i : Int) := by omega
        cases hat : atF (l.drop i) with
        | false =>
          go_wp2
          refine wp_region_any (by kernel_rfl) ?_
          try (change wpAny _ _ _ _ _ _ _ (World.drew _))
          (refine wpAny_take (i := 0) (v := ?_) rfl (by kernel_rfl) (by kernel_rfl) (by kernel_rfl) (fun _ _ _ h => h) (Or.inl ⟨by first | (go_simp; done) | rfl, ?_⟩) ?_; rotate_left 1; (intro w; go_simp; try rfl))
          (refine wpAny_take (i := 1) (v := ?_) rfl (by kernel_rfl) (by kernel_rfl) (by kernel_rfl) (fun _ _ _ h => h) (Or.inl ⟨by first | (go_simp; done) | rfl, ?_⟩) ?_; rotate_left 1; (intro w; go_simp; try rfl))
          (refine wpAny_take (i := 2) (v := ?_) rfl (by kernel_rfl) (by kernel_rfl) (by kernel_rfl) (fun _ _ _ h => h) (Or.inl ⟨by first | (go_simp; done) | rfl, ?_⟩) ?_; rotate_left 1; (intro w; go_simp; try rfl))
          (refine wpAny_take (i := 3) (v := ?_) rfl (by kernel_rfl) (by kernel_rfl) (by kernel_rfl) (fun _ _ _ h => h) (Or.inl ⟨by first | (go_simp; done) | rfl, ?_⟩) ?_; rotate_left 1; (intro w; go_simp; try rfl))
          (refine wpAny_take (i := 4) (v := ?_) rfl (by kernel_rfl) (by kernel_rfl) (by kernel_rfl) (fun _ _ _ h => h) (Or.inl ⟨by first | (go_simp; done) | rfl, ?_⟩) ?_; rotate_left 1; (intro w; go_simp; try rfl))
          refine wpAny_ready (rs := [5]) (by kernel_rfl) (by simp) ?_
          refine AllReady.cons rfl (fun K hK => ?_) AllReady.nil
          go_simp
          (go_at_call 53; refine (cf _).mono ?_; clear cf; rintro e w1 ⟨A1, n1, k1, rfl, ho1, hb1⟩)
          try go_simp
          try (refine hK _ _ ?_; clear hK K)
          refine wpAny_ready (rs := [6]) (by kernel_rfl) (by simp) ?_
          refine AllReady.cons rfl (fun K hK => ?_) AllReady.nil
          go_simp
          (go_at_call 16; refine (ref_Bools _ _ _ _ _ _ _ _ false _ (hR.drew.below (hb1.mono hbel.size)) ho1.reads hmx8 hat).mono ?_; rintro e w2 ⟨rfl, m, rfl⟩)
          try go_simp
          try (refine hK _ _ ?_; clear hK K)
          (refine wpAny_take (i := 7) (v := ?_) rfl (by kernel_rfl) (by kernel_rfl) (by kernel_rfl) (fun _ _ _ h => h) (Or.inl ⟨by first | (go_simp; done) | rfl, ?_⟩) ?_; rotate_left 1; (intro w; go_simp; try rfl))
          (refine wpAny_take (i := 8) (v := ?_) rfl (by kernel_rfl) (by kernel_rfl) (by kernel_rfl) (fun _ _ _ h => h) (Or.inl ⟨by first | (go_simp; done) | rfl, ?_⟩) ?_; rotate_left 1; (intro w; go_simp; try rfl))
          try go_simp
          (refine wpAny_take (i := 9) (v := undef) rfl (by kernel_rfl) (by kernel_rfl) (by kernel_rfl) (fun _ _ _ h => h) (Or.inr ⟨by first | (go_simp; done) | rfl, rfl⟩) ?_)
          (refine wpAny_take (i := 10) (v := undef) rfl (by kernel_rfl) (by kernel_rfl) (by kernel_rfl) (fun _ _ _ h => h) (Or.inr ⟨by first | (go_simp; done) | rfl, rfl⟩) ?_)
          (refine wpAny_take (i := 11) (v := undef) rfl (by kernel_rfl) (by kernel_rfl) (by kernel_rfl) (fun _ _ _ h => h) (Or.inr ⟨by first | (go_simp; done) | rfl, rfl⟩) ?_)
          try go_simp
          (refine wpAny_take (i := 12) (v := undef) rfl (by kernel_rfl) (by kernel_rfl) (by kernel_rfl) (fun _ _ _ h => h) (Or.inr ⟨by first | (go_simp; done) | rfl, rfl⟩) ?_)
          (refine wpAny_take (i := 13) (v := undef) rfl (by kernel_rfl) (by kernel_rfl) (by kernel_rfl) (fun _ _ _ h => h) (Or.inr ⟨by first | (go_simp; done) | rfl, rfl⟩) ?_)
          (refine wpAny_take (i := 14) (v := undef) rfl (by kernel_rfl) (by kernel_rfl) (by kernel_rfl) (fun _ _ _ h => h) (Or.inr ⟨by first | (go_simp; done) | rfl, rfl⟩) ?_)
          try go_simp
          (refine wpAny_take (i := 15) (v := undef) rfl (by kernel_rfl) (by kernel_rfl) (by kernel_rfl) (fun _ _ _ h => h) (Or.inr ⟨by first | (go_simp; done) | rfl, rfl⟩) ?_)
          (refine wpAny_take (i := 16) (v := undef) rfl (by kernel_rfl) (by kernel_rfl) (by kernel_rfl) (fun _ _ _ h => h) (Or.inr ⟨by first | (go_simp; done) | rfl, rfl⟩) ?_)
          (refine wpAny_take (i := 17) (v := ?_) rfl (by kernel_rfl) (by kernel_rfl) (by kernel_rfl) (fun _ _ _ h => h) (Or.inl ⟨by first | (go_simp; done) | rfl, ?_⟩) ?_; rotate_left 1; (intro w; go_simp; try rfl))
          refine wpAny_done (by kernel_rfl) ?_ _
          go_wp2
          have hw2 : Below w.heap.size w (w1.drewN m) := below_drewN (hbel.drew.trans (hb1.mono hbel.size)) m
          have hown2 := ((hown.below ((Below.refl _ _).drew.trans hb1)).below (below_drewN (Below.refl _ _) m))
          go_roundw
          case rel => exact ⟨i + 1, by go_num, by omega, hw2, .inr ⟨s, f, T, by omega, rfl, hown2, hk.out.skip (.inl hat)⟩⟩
          case measure => simp [intOf]; omega
        | true =>
          have hkl := hk.out.len
          rw [H.out] at hkl
          have hsi := hk.out.lt
          by_cases hs8 : i < s + 8
          · have j11 : (i : Int) - 8 < (s : Int) := by omega
            have j12 : (0 : Int) ≤ (s : Int) := by omega
            go_wp2
            refine wp_region_any (by kernel_rfl) ?_
            try (change wpAny _ _ _ _ _ _ _ (World.drew _))
            (refine wpAny_take (i := 0) (v := ?_) rfl (by kernel_rfl) (by kernel_rfl) (by kernel_rfl) (fun _ _ _ h => h) (Or.inl ⟨by first | (go_simp; done) | rfl, ?_⟩) ?_; rotate_left 1; (intro w; go_simp; try rfl))
            (refine wpAny_take (i := 1) (v := ?_) rfl (by kernel_rfl) (by kernel_rfl) (by kernel_rfl) (fun _ _ _ h => h) (Or.inl ⟨by first | (go_simp; done) | rfl, ?_⟩) ?_; rotate_left 1; (intro w; go_simp; try rfl))
            (refine wpAny_take (i := 2) (v := ?_) rfl (by kernel_rfl) (by kernel_rfl) (by kernel_rfl) (fun _ _ _ h => h) (Or.inl ⟨by first | (go_simp; done) | rfl, ?_⟩) ?_; rotate_left 1; (intro w; go_simp; try rfl))
            (refine wpAny_take (i := 3) (v := ?_) rfl (by kernel_rfl) (by kernel_rfl) (by kernel_rfl) (fun _ _ _ h => h) (Or.inl ⟨by first | (go_simp; done) | rfl, ?_⟩) ?_; rotate_left 1; (intro w; go_simp; try rfl))
            (refine wpAny_take (i := 4) (v := ?_) rfl (by kernel_rfl) (by kernel_rfl) (by kernel_rfl) (fun _ _ _ h => h) (Or.inl ⟨by first | (go_simp; done) | rfl, ?_⟩) ?_; rotate_left 1; (intro w; go_simp; try rfl))
            refine wpAny_ready (rs := [5]) (by kernel_rfl) (by simp) ?_
            refine AllReady.cons rfl (fun K hK => ?_) AllReady.nil
            go_simp
            (go_at_call 53; refine (cf _).mono ?_; clear cf; rintro e w1 ⟨A1, n1, k1, rfl, ho1, hb1⟩)
            try go_simp
            try (refine hK _ _ ?_; clear hK K)
            refine wpAny_ready (rs := [6]) (by kernel_rfl) (by simp) ?_
            refine AllReady.cons rfl (fun K hK => ?_) AllReady.nil
            go_simp
            (go_at_call 16; refine (ref_Bools _ _ _ _ _ _ _ _ true _ (hR.drew.below (hb1.mono hbel.size)) ho1.reads hmx8 hat).mono ?_; rintro e w2 ⟨rfl, m, rfl⟩)
            try go_simp
            try (refine hK _ _ ?_; clear hK K)
            (refine wpAny_take (i := 7) (v := ?_) rfl (by kernel_rfl) (by kernel_rfl) (by kernel_rfl) (fun _ _ _ h => h) (Or.inl ⟨by first | (go_simp; done) | rfl, ?_⟩) ?_; rotate_left 1; (intro w; go_simp; try rfl))
            (refine wpAny_take (i := 8) (v := ?_) rfl (by kernel_rfl) (by kernel_rfl) (by kernel_rfl) (fun _ _ _ h => h) (Or.inl ⟨by first | (go_simp; done) | rfl, ?_⟩) ?_; rotate_left 1; (intro w; go_simp; try rfl))
            try go_simp
            (refine wpAny_take (i := 9) (v := ?_) rfl (by kernel_rfl) (by kernel_rfl) (by kernel_rfl) (fun _ _ _ h => h) (Or.inl ⟨by first | (go_simp; done) | rfl, ?_⟩) ?_; rotate_left 1; (intro w; go_simp; try rfl))
            (refine wpAny_take (i := 10) (v := ?_) rfl (by kernel_rfl) (by kernel_rfl) (by kernel_rfl) (fun _ _ _ h => h) (Or.inl ⟨by first | (go_simp; done) | rfl, ?_⟩) ?_; rotate_left 1; (intro w; go_simp; try rfl))
            (refine wpAny_take (i := 11) (v := ?_) rfl (by kernel_rfl) (by kernel_rfl) (by kernel_rfl) (fun _ _ _ h => h) (Or.inl ⟨by first | (go_simp; done) | rfl, ?_⟩) ?_; rotate_left 1; (intro w; go_simp; try rfl))
            try go_simp
            (refine wpAny_take (i := 12) (v := ?_) rfl (by kernel_rfl) (by kernel_rfl) (by kernel_rfl) (fun _ _ _ h => h) (Or.inl ⟨by first | (go_simp; done) | rfl, ?_⟩) ?_; rotate_left 1; (intro w; go_simp; try rfl))
            (refine wpAny_take (i := 13) (v := ?_) rfl (by kernel_rfl) (by kernel_rfl) (by kernel_rfl) (fun _ _ _ h => h) (Or.inl ⟨by first | (go_simp; done) | rfl, ?_⟩) ?_; rotate_left 1; (intro w; go_simp; try rfl))
            (refine wpAny_take (i := 14) (v := ?_) rfl (by kernel_rfl) (by kernel_rfl) (by kernel_rfl) (fun _ _ _ h => h) (Or.inl ⟨by first | (go_simp; done) | rfl, ?_⟩) ?_; rotate_left 1; (intro w; go_simp; try rfl))
            try go_simp
            (refine wpAny_take (i := 15) (v := ?_) rfl (by kernel_rfl) (by kernel_rfl) (by kernel_rfl) (fun _ _ _ h => h) (Or.inl ⟨by first | (go_simp; done) | rfl, ?_⟩) ?_; rotate_left 1; (intro w; go_simp; try rfl))
            (refine wpAny_take (i := 16) (v := ?_) rfl (by kernel_rfl) (by kernel_rfl) (by kernel_rfl) (fun _ _ _ h => h) (Or.inl ⟨by first | (go_simp; done) | rfl, ?_⟩) ?_; rotate_left 1; (intro w; go_simp; try rfl))
            (refine wpAny_take (i := 17) (v := ?_) rfl (by kernel_rfl) (by kernel_rfl) (by kernel_rfl) (fun _ _ _ h => h) (Or.inl ⟨by first | (go_simp; done) | rfl, ?_⟩) ?_; rotate_left 1; (intro w; go_simp; try rfl))
            refine wpAny_done (by kernel_rfl) ?_ _
            go_wp2
            have hw2 : Below w.heap.size w (w1.drewN m) := below_drewN (hbel.drew.trans (hb1.mono hbel.size)) m
            have hown2 := ((hown.below ((Below.refl _ _).drew.trans hb1)).below (below_drewN (Below.refl _ _) m))
            go_roundw
            case rel => exact ⟨i + 1, by go_num, by omega, hw2, .inr ⟨s, f, T, by omega, rfl, hown2, hk.out.skip (.inr hs8)⟩⟩
            case measure => simp [intOf]; omega
          · have j11 : ¬ (i : Int) - 8 < (s : Int) := by omega
            have j12 : (0 : Int) ≤ (s : Int) := by omega
            have hsi8 : s + 8 ≤ i := by omega
            have cbr := fun (res : Option (List Bool)) (hr : Hid (bareR 0 ((l.drop (s + 8)).take (i - (s + 8))) = res)) (W : World) (hW : Reads W W.heap.size (some ⟨ad.block, ad.off + (s + 8), none⟩) (i - (s + 8)) (vb ((l.drop (s + 8)).take (i - (s + 8))))) => ref_Bared (some ⟨ad.block, ad.off + (s + 8), none⟩) (i - (s + 8)) (c - (s + 8)) ((l.drop (s + 8)).take (i - (s + 8))) res W hW (by omega) (by omega) hr
            have hfr : Hid (ad.add (s + 8) = ⟨ad.block, ad.off + (s + 8), none⟩) := by simp [Hid, Addr.add]
            have k1 : ¬ c = s + 8 := by omega
            have k2 : ((s : Int) + 8) ≤ (i : Int) := by omega
            have k3 : s + 8 ≤ i := hsi8
            have k4 : (i : Int) ≤ (c : Int) := by omega
            have k5 : i ≤ c := by omega
            cases hbr : bareR 0 ((l.drop (s + 8)).take (i - (s + 8))) with
            | none =>
              have cbr := cbr none hbr
              have hR2 := splitR_no hb.out (hk.out.bad hsi8 hat hbr)
              rw [hRR.out] at hR2
              have HR2 := Lib.hid hR2
              clear hbr hR2
              go_wp2
              refine wp_region_any (by kernel_rfl) ?_
              try (change wpAny _ _ _ _ _ _ _ (World.drew _))
              (refine wpAny_take (i := 0) (v := ?_) rfl (by kernel_rfl) (by kernel_rfl) (by kernel_rfl) (fun _ _ _ h => h) (Or.inl ⟨by first | (go_simp; done) | rfl, ?_⟩) ?_; rotate_left 1; (intro w; go_simp; try rfl))
              (refine wpAny_take (i := 1) (v := ?_) rfl (by kernel_rfl) (by kernel_rfl) (by kernel_rfl) (fun _ _ _ h => h) (Or.inl ⟨by first | (go_simp; done) | rfl, ?_⟩) ?_; rotate_left 1; (intro w; go_simp; try rfl))
              (refine wpAny_take (i := 2) (v := ?_) rfl (by kernel_rfl) (by kernel_rfl) (by kernel_rfl) (fun _ _ _ h => h) (Or.inl ⟨by first | (go_simp; done) | rfl, ?_⟩) ?_; rotate_left 1; (intro w; go_simp; try rfl))
              (refine wpAny_take (i := 3) (v := ?_) rfl (by kernel_rfl) (by kernel_rfl) (by kernel_rfl) (fun _ _ _ h => h) (Or.inl ⟨by first | (go_simp; done) | rfl, ?_⟩) ?_; rotate_left 1; (intro w; go_simp; try rfl))
              (refine wpAny_take (i := 4) (v := ?_) rfl (by kernel_rfl) (by kernel_rfl) (by kernel_rfl) (fun _ _ _ h => h) (Or.inl ⟨by first | (go_simp; done) | rfl, ?_⟩) ?_; rotate_left 1; (intro w; go_simp; try rfl))
              refine wpAny_ready (rs := [5]) (by kernel_rfl) (by simp) ?_
              refine AllReady.cons rfl (fun K hK => ?_) AllReady.nil
              go_simp
              (go_at_call 53; refine (cf _).mono ?_; clear cf; rintro e w1 ⟨A1, n1, k1, rfl, ho1, hb1⟩)
              try go_simp
              try (refine hK _ _ ?_; clear hK K)
              refine wpAny_ready (rs := [6]) (by kernel_rfl) (by simp) ?_
              refine AllReady.cons rfl (fun K hK => ?_) AllReady.nil
              go_simp
              (go_at_call 16; refine (ref_Bools _ _ _ _ _ _ _ _ true _ (hR.drew.below (hb1.mono hbel.size)) ho1.reads hmx8 hat).mono ?_; rintro e w2 ⟨rfl, m, rfl⟩)
              try go_simp
              try (refine hK _ _ ?_; clear hK K)
              (refine wpAny_take (i := 7) (v := ?_) rfl (by kernel_rfl) (by kernel_rfl) (by kernel_rfl) (fun _ _ _ h => h) (Or.inl ⟨by first | (go_simp; done) | rfl, ?_⟩) ?_; rotate_left 1; (intro w; go_simp; try rfl))
              (refine wpAny_take (i := 8) (v := ?_) rfl (by kernel_rfl) (by kernel_rfl) (by kernel_rfl) (fun _ _ _ h => h) (Or.inl ⟨by first | (go_simp; done) | rfl, ?_⟩) ?_; rotate_left 1; (intro w; go_simp; try rfl))
              try go_simp
              (refine wpAny_take (i := 9) (v := ?_) rfl (by kernel_rfl) (by kernel_rfl) (by kernel_rfl) (fun _ _ _ h => h) (Or.inl ⟨by first | (go_simp; done) | rfl, ?_⟩) ?_; rotate_left 1; (intro w; go_simp; try rfl))
              (refine wpAny_take (i := 10) (v := ?_) rfl (by kernel_rfl) (by kernel_rfl) (by kernel_rfl) (fun _ _ _ h => h) (Or.inl ⟨by first | (go_simp; done) | rfl, ?_⟩) ?_; rotate_left 1; (intro w; go_simp; try rfl))
              (refine wpAny_take (i := 11) (v := ?_) rfl (by kernel_rfl) (by kernel_rfl) (by kernel_rfl) (fun _ _ _ h => h) (Or.inl ⟨by first | (go_simp; done) | rfl, ?_⟩) ?_; rotate_left 1; (intro w; go_simp; try rfl))
              try go_simp
              (refine wpAny_take (i := 12) (v := ?_) rfl (by kernel_rfl) (by kernel_rfl) (by kernel_rfl) (fun _ _ _ h => h) (Or.inl ⟨by first | (go_simp; done) | rfl, ?_⟩) ?_; rotate_left 1; (intro w; go_simp; try rfl))
              (refine wpAny_take (i := 13) (v := ?_) rfl (by kernel_rfl) (by kernel_rfl) (by kernel_rfl) (fun _ _ _ h => h) (Or.inl ⟨by first | (go_simp; done) | rfl, ?_⟩) ?_; rotate_left 1; (intro w; go_simp; try rfl))
              (refine wpAny_take (i := 14) (v := undef) rfl (by kernel_rfl) (by kernel_rfl) (by kernel_rfl) (fun _ _ _ h => h) (Or.inr ⟨by first | (go_simp; done) | rfl, rfl⟩) ?_)
              try go_simp
              (refine wpAny_take (i := 15) (v := undef) rfl (by kernel_rfl) (by kernel_rfl) (by kernel_rfl) (fun _ _ _ h => h) (Or.inr ⟨by first | (go_simp; done) | rfl, rfl⟩) ?_)
              (refine wpAny_take (i := 16) (v := ?_) rfl (by kernel_rfl) (by kernel_rfl) (by kernel_rfl) (fun _ _ _ h => h) (Or.inl ⟨by first | (go_simp; done) | rfl, ?_⟩) ?_; rotate_left 1; (intro w; go_simp; try rfl))
              (refine wpAny_take (i := 17) (v := ?_) rfl (by kernel_rfl) (by kernel_rfl) (by kernel_rfl) (fun _ _ _ h => h) (Or.inl ⟨by first | (go_simp; done) | rfl, ?_⟩) ?_; rotate_left 1; (intro w; go_simp; try rfl))
              refine wpAny_done (by kernel_rfl) ?_ _
              have hW : Below w.heap.size w (w1.drewN m) := below_drewN (hbel.drew.trans (hb1.mono hbel.size)) m
              have hS : Reads (w1.drewN m) w.heap.size (some ⟨ad.block, ad.off + (s + 8), none⟩) (i - (s + 8)) (vb ((l.drop (s + 8)).take (i - (s + 8)))) := by
                rw [← hfr.out]; exact ((h.below hW).dropP (k := s + 8) (by omega)).takeP (by omega)
              go_wp2_with (go_at_call 57; refine (cbr _ (hS.more hW.size)).mono ?_; clear cbr; rintro e w4 ⟨A4, n4, c4, rfl, hb4⟩)
              go_ret2
              rw [HR2.out]
              exact ⟨_, rfl, hW.trans (hb4.mono hW.size)⟩
            | some t =>
              have cbr := cbr (some t) hbr
              obtain ⟨tl, htl⟩ : ∃ tl, t.length = tl := ⟨_, rfl⟩
              have HTL := Lib.hid htl
              by_cases h64 : 64 < tl
              · have hR2 := splitR_no hb.out (hk.out.far hsi8 hat hbr (by rw [htl]; exact h64))
                rw [hRR.out] at hR2
                have HR2 := Lib.hid hR2
                have k6 : (64 : Int) < (tl : Int) := by omega
                clear hbr hR2 htl
                go_wp2
                refine wp_region_any (by kernel_rfl) ?_
                try (change wpAny _ _ _ _ _ _ _ (World.drew _))
                (refine wpAny_take (i := 0) (v := ?_) rfl (by kernel_rfl) (by kernel_rfl) (by kernel_rfl) (fun _ _ _ h => h) (Or.inl ⟨by first | (go_simp; done) | rfl, ?_⟩) ?_; rotate_left 1; (intro w; go_simp; try rfl))
                (refine wpAny_take (i := 1) (v := ?_) rfl (by kernel_rfl) (by kernel_rfl) (by kernel_rfl) (fun _ _ _ h => h) (Or.inl ⟨by first | (go_simp; done) | rfl, ?_⟩) ?_; rotate_left 1; (intro w; go_simp; try rfl))
                (refine wpAny_take (i := 2) (v := ?_) rfl (by kernel_rfl) (by kernel_rfl) (by kernel_rfl) (fun _ _ _ h => h) (Or.inl ⟨by first | (go_simp; done) | rfl, ?_⟩) ?_; rotate_left 1; (intro w; go_simp; try rfl))
                (refine wpAny_take (i := 3) (v := ?_) rfl (by kernel_rfl) (by kernel_rfl) (by kernel_rfl) (fun _ _ _ h => h) (Or.inl ⟨by first | (go_simp; done) | rfl, ?_⟩) ?_; rotate_left 1; (intro w; go_simp; try rfl))
                (refine wpAny_take (i := 4) (v := ?_) rfl (by kernel_rfl) (by kernel_rfl) (by kernel_rfl) (fun _ _ _ h => h) (Or.inl ⟨by first | (go_simp; done) | rfl, ?_⟩) ?_; rotate_left 1; (intro w; go_simp; try rfl))
                refine wpAny_ready (rs := [5]) (by kernel_rfl) (by simp) ?_
                refine AllReady.cons rfl (fun K hK => ?_) AllReady.nil
                go_simp
                (go_at_call 53; refine (cf _).mono ?_; clear cf; rintro e w1 ⟨A1, n1, k1, rfl, ho1, hb1⟩)
                try go_simp
                try (refine hK _ _ ?_; clear hK K)
                refine wpAny_ready (rs := [6]) (by kernel_rfl) (by simp) ?_
                refine AllReady.cons rfl (fun K hK => ?_) AllReady.nil
                go_simp
                (go_at_call 16; refine (ref_Bools _ _ _ _ _ _ _ _ true _ (hR.drew.below (hb1.mono hbel.size)) ho1.reads hmx8 hat).mono ?_; rintro e w2 ⟨rfl, m, rfl⟩)
                try go_simp
                try (refine hK _ _ ?_; clear hK K)
                (refine wpAny_take (i := 7) (v := ?_) rfl (by kernel_rfl) (by kernel_rfl) (by kernel_rfl) (fun _ _ _ h => h) (Or.inl ⟨by first | (go_simp; done) | rfl, ?_⟩) ?_; rotate_left 1; (intro w; go_simp; try rfl))
                (refine wpAny_take (i := 8) (v := ?_) rfl (by kernel_rfl) (by kernel_rfl) (by kernel_rfl) (fun _ _ _ h => h) (Or.inl ⟨by first | (go_simp; done) | rfl, ?_⟩) ?_; rotate_left 1; (intro w; go_simp; try rfl))
                try go_simp
                (refine wpAny_take (i := 9) (v := ?_) rfl (by kernel_rfl) (by kernel_rfl) (by kernel_rfl) (fun _ _ _ h => h) (Or.inl ⟨by first | (go_simp; done) | rfl, ?_⟩) ?_; rotate_left 1; (intro w; go_simp; try rfl))
                (refine wpAny_take (i := 10) (v := ?_) rfl (by kernel_rfl) (by kernel_rfl) (by kernel_rfl) (fun _ _ _ h => h) (Or.inl ⟨by first | (go_simp; done) | rfl, ?_⟩) ?_; rotate_left 1; (intro w; go_simp; try rfl))
                (refine wpAny_take (i := 11) (v := ?_) rfl (by kernel_rfl) (by kernel_rfl) (by kernel_rfl) (fun _ _ _ h => h) (Or.inl ⟨by first | (go_simp; done) | rfl, ?_⟩) ?_; rotate_left 1; (intro w; go_simp; try rfl))
                try go_simp
                (refine wpAny_take (i := 12) (v := ?_) rfl (by kernel_rfl) (by kernel_rfl) (by kernel_rfl) (fun _ _ _ h => h) (Or.inl ⟨by first | (go_simp; done) | rfl, ?_⟩) ?_; rotate_left 1; (intro w; go_simp; try rfl))
                (refine wpAny_take (i := 13) (v := ?_) rfl (by kernel_rfl) (by kernel_rfl) (by kernel_rfl) (fun _ _ _ h => h) (Or.inl ⟨by first | (go_simp; done) | rfl, ?_⟩) ?_; rotate_left 1; (intro w; go_simp; try rfl))
                (refine wpAny_take (i := 14) (v := undef) rfl (by kernel_rfl) (by kernel_rfl) (by kernel_rfl) (fun _ _ _ h => h) (Or.inr ⟨by first | (go_simp; done) | rfl, rfl⟩) ?_)
                try go_simp
                (refine wpAny_take (i := 15) (v := undef) rfl (by kernel_rfl) (by kernel_rfl) (by kernel_rfl) (fun _ _ _ h => h) (Or.inr ⟨by first | (go_simp; done) | rfl, rfl⟩) ?_)
                (refine wpAny_take (i := 16) (v := ?_) rfl (by kernel_rfl) (by kernel_rfl) (by kernel_rfl) (fun _ _ _ h => h) (Or.inl ⟨by first | (go_simp; done) | rfl, ?_⟩) ?_; rotate_left 1; (intro w; go_simp; try rfl))
                (refine wpAny_take (i := 17) (v := ?_) rfl (by kernel_rfl) (by kernel_rfl) (by kernel_rfl) (fun _ _ _ h => h) (Or.inl ⟨by first | (go_simp; done) | rfl, ?_⟩) ?_; rotate_left 1; (intro w; go_simp; try rfl))
                refine wpAny_done (by kernel_rfl) ?_ _
                have hW : Below w.heap.size w (w1.drewN m) := below_drewN (hbel.drew.trans (hb1.mono hbel.size)) m
                have hS : Reads (w1.drewN m) w.heap.size (some ⟨ad.block, ad.off + (s + 8), none⟩) (i - (s + 8)) (vb ((l.drop (s + 8)).take (i - (s + 8)))) := by
                  rw [← hfr.out]; exact ((h.below hW).dropP (k := s + 8) (by omega)).takeP (by omega)
                go_wp2_with (go_at_call 57; refine (cbr _ (hS.more hW.size)).mono ?_; clear cbr; rintro e w4 ⟨A4, n4, c4, rfl, ho4, hb4⟩; obtain rfl : n4 = tl := (by have := ho4.len; rw [List.length_map, HTL.out] at this; exact this.symm))
                go_ret2
                rw [HR2.out]
                exact ⟨_, rfl, hW.trans (hb4.mono hW.size)⟩
              · obtain ⟨f', hnx⟩ := hk.out.next hsi8 hat hbr (by rw [htl]; exact h64)
                have HNX := Lib.hid hnx
                have k6 : ¬ (64 : Int) < (tl : Int) := by omega
                obtain ⟨tn, htn⟩ : ∃ tn, T.length = tn := ⟨_, rfl⟩
                have HTN := Lib.hid htn
                have htn125 : tn ≤ 125 := by have := hk.out.many; rw [htn] at this; omega
                have hmp : (T.map vb ++ [vb t]) = (T ++ [t]).map vb := by simp
                have HMP := Lib.hid hmp
                clear hbr htl hnx htn hmp
                go_wp2
                refine wp_region_any (by kernel_rfl) ?_
                try (change wpAny _ _ _ _ _ _ _ (World.drew _))
                (refine wpAny_take (i := 0) (v := ?_) rfl (by kernel_rfl) (by kernel_rfl) (by kernel_rfl) (fun _ _ _ h => h) (Or.inl ⟨by first | (go_simp; done) | rfl, ?_⟩) ?_; rotate_left 1; (intro w; go_simp; try rfl))
                (refine wpAny_take (i := 1) (v := ?_) rfl (by kernel_rfl) (by kernel_rfl) (by kernel_rfl) (fun _ _ _ h => h) (Or.inl ⟨by first | (go_simp; done) | rfl, ?_⟩) ?_; rotate_left 1; (intro w; go_simp; try rfl))
                (refine wpAny_take (i := 2) (v := ?_) rfl (by kernel_rfl) (by kernel_rfl) (by kernel_rfl) (fun _ _ _ h => h) (Or.inl ⟨by first | (go_simp; done) | rfl, ?_⟩) ?_; rotate_left 1; (intro w; go_simp; try rfl))
                (refine wpAny_take (i := 3) (v := ?_) rfl (by kernel_rfl) (by kernel_rfl) (by kernel_rfl) (fun _ _ _ h => h) (Or.inl ⟨by first | (go_simp; done) | rfl, ?_⟩) ?_; rotate_left 1; (intro w; go_simp; try rfl))
                (refine wpAny_take (i := 4) (v := ?_) rfl (by kernel_rfl) (by kernel_rfl) (by kernel_rfl) (fun _ _ _ h => h) (Or.inl ⟨by first | (go_simp; done) | rfl, ?_⟩) ?_; rotate_left 1; (intro w; go_simp; try rfl))
                refine wpAny_ready (rs := [5]) (by kernel_rfl) (by simp) ?_
                refine AllReady.cons rfl (fun K hK => ?_) AllReady.nil
                go_simp
                (go_at_call 53; refine (cf _).mono ?_; clear cf; rintro e w1 ⟨A1, n1, k1, rfl, ho1, hb1⟩)
                try go_simp
                try (refine hK _ _ ?_; clear hK K)
                refine wpAny_ready (rs := [6]) (by kernel_rfl) (by simp) ?_
                refine AllReady.cons rfl (fun K hK => ?_) AllReady.nil
                go_simp
                (go_at_call 16; refine (ref_Bools _ _ _ _ _ _ _ _ true _ (hR.drew.below (hb1.mono hbel.size)) ho1.reads hmx8 hat).mono ?_; rintro e w2 ⟨rfl, m, rfl⟩)
                try go_simp
                try (refine hK _ _ ?_; clear hK K)
                (refine wpAny_take (i := 7) (v := ?_) rfl (by kernel_rfl) (by kernel_rfl) (by kernel_rfl) (fun _ _ _ h => h) (Or.inl ⟨by first | (go_simp; done) | rfl, ?_⟩) ?_; rotate_left 1; (intro w; go_simp; try rfl))
                (refine wpAny_take (i := 8) (v := ?_) rfl (by kernel_rfl) (by kernel_rfl) (by kernel_rfl) (fun _ _ _ h => h) (Or.inl ⟨by first | (go_simp; done) | rfl, ?_⟩) ?_; rotate_left 1; (intro w; go_simp; try rfl))
                try go_simp
                (refine wpAny_take (i := 9) (v := ?_) rfl (by kernel_rfl) (by kernel_rfl) (by kernel_rfl) (fun _ _ _ h => h) (Or.inl ⟨by first | (go_simp; done) | rfl, ?_⟩) ?_; rotate_left 1; (intro w; go_simp; try rfl))
                (refine wpAny_take (i := 10) (v := ?_) rfl (by kernel_rfl) (by kernel_rfl) (by kernel_rfl) (fun _ _ _ h => h) (Or.inl ⟨by first | (go_simp; done) | rfl, ?_⟩) ?_; rotate_left 1; (intro w; go_simp; try rfl))
                (refine wpAny_take (i := 11) (v := ?_) rfl (by kernel_rfl) (by kernel_rfl) (by kernel_rfl) (fun _ _ _ h => h) (Or.inl ⟨by first | (go_simp; done) | rfl, ?_⟩) ?_; rotate_left 1; (intro w; go_simp; try rfl))
                try go_simp
                (refine wpAny_take (i := 12) (v := ?_) rfl (by kernel_rfl) (by kernel_rfl) (by kernel_rfl) (fun _ _ _ h => h) (Or.inl ⟨by first | (go_simp; done) | rfl, ?_⟩) ?_; rotate_left 1; (intro w; go_simp; try rfl))
                (refine wpAny_take (i := 13) (v := ?_) rfl (by kernel_rfl) (by kernel_rfl) (by kernel_rfl) (fun _ _ _ h => h) (Or.inl ⟨by first | (go_simp; done) | rfl, ?_⟩) ?_; rotate_left 1; (intro w; go_simp; try rfl))
                (refine wpAny_take (i := 14) (v := undef) rfl (by kernel_rfl) (by kernel_rfl) (by kernel_rfl) (fun _ _ _ h => h) (Or.inr ⟨by first | (go_simp; done) | rfl, rfl⟩) ?_)
                try go_simp
                (refine wpAny_take (i := 15) (v := undef) rfl (by kernel_rfl) (by kernel_rfl) (by kernel_rfl) (fun _ _ _ h => h) (Or.inr ⟨by first | (go_simp; done) | rfl, rfl⟩) ?_)
                (refine wpAny_take (i := 16) (v := ?_) rfl (by kernel_rfl) (by kernel_rfl) (by kernel_rfl) (fun _ _ _ h => h) (Or.inl ⟨by first | (go_simp; done) | rfl, ?_⟩) ?_; rotate_left 1; (intro w; go_simp; try rfl))
                (refine wpAny_take (i := 17) (v := ?_) rfl (by kernel_rfl) (by kernel_rfl) (by kernel_rfl) (fun _ _ _ h => h) (Or.inl ⟨by first | (go_simp; done) | rfl, ?_⟩) ?_; rotate_left 1; (intro w; go_simp; try rfl))
                refine wpAny_done (by kernel_rfl) ?_ _
                have hW : Below w.heap.size w (w1.drewN m) := below_drewN (hbel.drew.trans (hb1.mono hbel.size)) m
                have hS : Reads (w1.drewN m) w.heap.size (some ⟨ad.block, ad.off + (s + 8), none⟩) (i - (s + 8)) (vb ((l.drop (s + 8)).take (i - (s + 8)))) := by
                  rw [← hfr.out]; exact ((h.below hW).dropP (k := s + 8) (by omega)).takeP (by omega)
                have hownW := ((hown.below ((Below.refl _ _).drew.trans hb1)).below (below_drewN (Below.refl _ _) m))
                have hlt0 : ∀ q, Value.ownBlock _ = some q → q < (w1.drewN m).heap.size := (by obtain ⟨vs0, hv0, _⟩ := hownW; exact fun q hq => (Own.lt hv0 q hq).2)
                go_wp2_with (first
                  | (go_at_call 57; refine (cbr _ (hS.more hW.size)).mono ?_; clear cbr; rintro e w4 ⟨A4, n4, c4, rfl, ho4, hb4⟩; obtain rfl : n4 = tl := (by have := ho4.len; rw [List.length_map, HTL.out] at this; exact this.symm); have hown4 := hownW.below hb4; obtain ⟨vs, hv, hrw⟩ := hown4; have hvl : vs.length = tn := (by rw [hrw.1, List.length_map, HTN.out]); have hbel4 := hW.trans (hb4.mono hW.size); have hn4 : n4 ≤ maxLen := (by unfold maxLen; omega); have HVL := Lib.hid hvl; clear hvl)
                  | (at_builtin; refine app1 el_rowsS rfl _ _ rfl rfl hv _ _ rfl rfl (by rw [HVL.out]; unfold maxLen; omega) (by rw [HVL.out]; omega) hbel4.size ?_; intro v5 w5 ho5 hb5 hg5 hat5; have hpush := rows_push hrw ho4.reads hn4 (fun ad ha hq => by have h1 := ho4.beyond ad ha; have h2 := hlt0 _ hq; omega) ho4.withinS ho5 hg5 hat5))
                rw [HMP.out] at hpush
                go_roundw
                case rel => exact ⟨i + 1, by go_num, by omega, hbel4.trans hb5, .inr ⟨i, f', T ++ [t], by omega, rfl, hpush, HNX⟩⟩
                case measure => simp [intOf]; omega
    · have j1 : ¬ ((i : Int) + 8) ≤ (n : Int) := by omega
      rcases hcase with ⟨hi0, rfl, rfl⟩ | ⟨s, f, T, hi0, rfl, hown, hk⟩
      · exfalso; omega
      · have hkl := hk.out.len
        have hend := hk.out.end_ (by rw [H.out]; omega)
        have hsame := hk.out.same
        have hlg := Lib.hid hk.out.long
        rw [H.out] at hkl hend hsame
        have j2 : (0 : Int) ≤ (s : Int) := by omega
        obtain ⟨TA, tc, te⟩ := hown.form
        rw [List.length_map] at te
        obtain ⟨tn, htn⟩ : ∃ tn, T.length = tn := ⟨_, rfl⟩
        rw [htn] at te
        have htn1 : tn ≤ 125 := by have := hk.out.many; rw [htn] at this; omega
        subst te
        by_cases h9 : 8 < tn
        · have j5 : ¬ (tn : Int) ≤ 8 := by omega
          have hR2 : R = none := by
            rw [← hRR.out]
            by_cases h1 : n = s + 8
            · rw [if_pos h1] at hend
              rw [splitR_of hb.out hend, htn, if_pos h9]
            · rw [if_neg h1] at hend
              exact splitR_no hb.out hend
          have HR2 := Lib.hid hR2
          clear hR2 hend hsame htn
          go_wp2
          go_ret2
          rw [HR2.out]
          exact ⟨_, rfl, hbel⟩
        · have j5 : (tn : Int) ≤ 8 := by omega
          have cfr := fun (W : World) (hW : Reads2 W W.heap.size TA tn T) => ref_Framed TA tn tc T W hW (by omega) hlg
          by_cases h1 : n = s + 8
          · rw [if_pos h1] at hend
            have hR2 := splitR_of hb.out hend
            rw [htn, if_neg h9, hRR.out] at hR2
            rw [decide_eq_true h1] at hsame
            have HR2 := Lib.hid hR2
            have HSM := Lib.hid hsame
            clear hR2 hend hsame htn h1
            go_wp2_with (first
              | (go_at_call 17; refine (cfr _ hown.two).mono ?_; clear cfr; rintro e w4 ⟨A4, n4, c4, rfl, ho4, hb4⟩; have hl4 : n4 ≤ maxLen := (by have := ho4.len; rw [List.length_map] at this; have h2 := of_decide_eq_true HSM.out; rw [h2, H.out] at this; unfold maxLen; omega))
              | (go_at_call 16; refine (ref_Bools A4 (some ad) n4 n c4 c _ _ true _ ho4.reads ((h.below hbel).below (hb4.mono hbel.size)) hl4 HSM).mono ?_; rintro e w5 ⟨rfl, m5, rfl⟩))
            go_ret2
            rw [HR2.out]
            exact ⟨_, _, _, rfl, (hown.below hb4).below (below_drewN (Below.refl _ _) _), below_drewN (hbel.trans (hb4.mono hbel.size)) _⟩
          · rw [if_neg h1] at hend
            have hR2 := splitR_no hb.out hend
            rw [hRR.out] at hR2
            rw [decide_eq_false h1] at hsame
            have hfl : (frF T).length ≤ 1000 := by
              rw [hk.out.fr, List.length_take, H.out]; omega
            have HR2 := Lib.hid hR2
            have HSM := Lib.hid hsame
            clear hR2 hend hsame htn h1
            go_wp2_with (first
              | (go_at_call 17; refine (cfr _ hown.two).mono ?_; clear cfr; rintro e w4 ⟨A4, n4, c4, rfl, ho4, hb4⟩; have hl4 : n4 ≤ maxLen := (by have := ho4.len; rw [List.length_map] at this; unfold maxLen; omega))
              | (go_at_call 16; refine (ref_Bools A4 (some ad) n4 n c4 c _ _ false _ ho4.reads ((h.below hbel).below (hb4.mono hbel.size)) hl4 HSM).mono ?_; rintro e w5 ⟨rfl, m5, rfl⟩))
            go_ret2
            rw [HR2.out]
            exact ⟨_, rfl, below_drewN (hbel.trans (hb4.mono hbel.size)) _⟩
end Go.Proofs.Ytmepiiheidmbgaa

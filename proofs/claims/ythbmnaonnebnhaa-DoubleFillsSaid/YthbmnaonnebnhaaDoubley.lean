/-
  double.Fill: where something is wrong.
-/
import Derived.Test.YthbmnaonnebnhaaDoublex
import Derived.Test.YthbmnaonnebnhaaDoublew
import Derived.Test.YthbmnaonnebnhaaDel
import Derived.Test.YthbmnaonnebnhaaCloneInts
set_option linter.unusedVariables false
namespace Go.Proofs.Ythbmnaonnebnhaa
open Go.RowKit

theorem el_intD : Elem Try.prog 26 3 (.int .i64 0) 8 := Elem.mk' Try.underlying26 (by kernel_rfl) rfl
theorem grown_setCellY (w : World) (p : Addr) (u : Value) : w.grownBy (w.setCell p u) (some p.block) := grown_setCellD w p u
/-- the first place at which something is wrong -/
theorem first_bad {l : List Int} {lost : List Bool} {n : Nat} (h : (List.range n).any (badAt l lost) = true) : ∃ K, K < n ∧ badAt l lost K = true ∧ ∀ j, j < K → badAt l lost j = false := by
  induction n with
  | zero => simp at h
  | succ n ih =>
    by_cases h1 : (List.range n).any (badAt l lost) = true
    · obtain ⟨K, a, b, c⟩ := ih h1
      exact ⟨K, by omega, b, c⟩
    · rw [List.range_succ, List.any_append] at h
      have h2 : badAt l lost n = true := by
        rcases Bool.or_eq_true _ _ ▸ h with h3 | h3
        · exact absurd h3 h1
        · simpa using h3
      refine ⟨n, by omega, h2, fun j hj => ?_⟩
      have h1' : (List.range n).any (badAt l lost) = false := by simpa using h1
      have := List.any_eq_false.1 h1' j (List.mem_range.2 hj)
      simpa using this
set_option maxRecDepth 100000 in
set_option maxHeartbeats 1600000 in
theorem double_Fill_bad (A A' : Option Addr) (n c c' K : Nat) (l : List Int) (lost : List Bool) (w : World) (h : Reads w w.heap.size A n (vi .i64 l)) (h' : Reads w w.heap.size A' n (vb lost)) (h3 : 3 ≤ n) (h14 : n ≤ 14) (hK : K < n) (HB : Hid (badAt l lost K = true)) (HOK : Hid (∀ j, j < K → badAt l lost j = false)) :
    Calls Try.prog 31 #[.slice A n c, .slice A' n c'] w (RetB w (.tuple #[.slice none 0 0, .int .i64 4])) := by
  have HL := Lib.hid h.int_len
  have HL' := Lib.hid h'.bool_len
  have c7' := clone_ints A n c (vi .i64 l) (w.alloc (.cells #[.int .i64 ((n : Int) - 2)] 3)) ((h.alloc (Nat.le_refl _) _).more (by simp)) (fun u hu => by obtain ⟨z, _, rfl⟩ := List.mem_map.1 hu; rfl) (by omega)
  have i1 : (1 : Int) ≤ (n : Int) - 2 := by omega
  have i2 : (n : Int) - 2 ≤ 12 := by omega
  have i3 : ¬ (n : Int) - 2 < 1 := by omega
  have i4 : ¬ (12 : Int) < (n : Int) - 2 := by omega
  have i5 : ((n : Int) != (n : Int)) = false := by simp
  go_enter Try.func31, Try.ntmps31
  go_wp2_with (go_at_call 51; refine c7'.mono ?_; clear c7'; rintro e w7 ⟨A7, n7, c7, rfl, ho7, hb7⟩; rw [show (w.alloc (.cells #[.int .i64 ((n : Int) - 2)] 3)).heap.size = w.heap.size + 1 from by simp] at ho7 hb7; obtain rfl : n = n7 := (by have := ho7.reads.int_len; rw [HL.out] at this; exact this); obtain ⟨ad7, rfl⟩ := ho7.reads.addr (by omega); obtain ⟨g, rfl, hg7, _⟩ := ho7.addr; have hcap7 := ho7.capLe')
  go_loopw [8, 34] (fun gv iv wr => ∃ k : Nat, k ≤ K ∧ iv = .int .i64 k ∧ Own wr (w.heap.size + 1) 3 (.slice (some ⟨g, 0, none⟩) n c7) (vi .i64 (zeroL l lost k)) ∧ Own wr (w.heap.size + 1) 3 gv (vn .i64 (goneL lost k)) ∧ Below (w.heap.size + 1) (w.alloc (.cells #[.int .i64 ((n : Int) - 2)] 3)) wr ∧ gv.ownBlock ≠ some g) (fun _ iv _ => n - (intOf iv).toNat)
  case atStart => exact ⟨0, by omega, rfl, by rw [zeroL_zero]; exact ho7, Own.nil _ _ _, hb7, by simp [Value.ownBlock]⟩
  case round =>
    obtain ⟨k, hk, rfl, hall, hgone, hbel, hne⟩ := hrel
    by_cases hlt : k < K
    · have hkn : k < n := by omega
      obtain ⟨ad, x, rfl, hb, hx, hc0⟩ := h.int_at hkn
      obtain ⟨ad', y, rfl, hb', hy, hc0'⟩ := h'.bool_at hkn
      have hBx : w.heap.size + 1 ≤ wr.heap.size := by have := hbel.size; simpa using this
      have hc : wr.cell? (ad.add k) = some (.int .i64 x) := (hbel.cell (by rw [block_of_add]; omega)).trans ((World.cell?_alloc_lt w _ _ (by rw [block_of_add]; exact hb)).trans hc0)
      have hc' : wr.cell? (ad'.add k) = some (.bool y) := (hbel.cell (by rw [block_of_add]; omega)).trans ((World.cell?_alloc_lt w _ _ (by rw [block_of_add]; exact hb')).trans hc0')
      have hls : lsB lost k = y := by unfold lsB; rw [List.getD_eq_getElem?_getD, hy]; rfl
      have hZN := zeroL_next (lost := lost) (show k < l.length by rw [HL.out]; exact hkn)
      have hGN := goneL_next lost k
      have hzk := zeroL_at (lost := lost) (k := k) hx
      rw [show decide (k < k) = false by simp, Bool.false_and, if_neg (by simp)] at hzk
      rw [hls] at hZN hGN
      have hbad := HOK.out k hlt
      unfold badAt at hbad
      rw [hls] at hbad
      have hgl : (vn .i64 (goneL lost k)).length ≤ 14 := by rw [List.length_map]; unfold goneL; have := filt_len (lsB lost) k; omega
      cases y with
      | true =>
        have HZN : Hid (zeroL l lost (k + 1) = (zeroL l lost k).set k 0) := by unfold Hid; rw [hZN]; rfl
        have HGN : Hid (vn .i64 (goneL lost k) ++ [Value.int .i64 (k : Int)] = vn .i64 (goneL lost (k + 1))) := by unfold Hid; rw [hGN]; simp [vn]
        have hca := hall.cell (j := k) (u := .int .i64 x) (by rw [List.getElem?_map, hzk]; rfl)
        have hfa := hall.frozenAt k
        have hsa := hall.set k (.int .i64 0)
        have hsg := hgone.setOther ⟨g, k, none⟩ (.int .i64 0) hne
        have hsb := hall.setBelow (Nat.le_refl _) k (.int .i64 0)
        have hgs := grown_setCellY wr ⟨g, k, none⟩ (.int .i64 0)
        rw [add_row] at hca hfa hsa hsb
        rw [vi_set] at hsa
        clear hZN hGN hx hy hls hbad hzk
        go_wp2_with (at_builtin; refine app1 el_intD rfl _ _ rfl rfl hsg (.int .i64 (k : Int)) _ (by show Value.slice (some ⟨wr.heap.size, 0, none⟩) 1 1 = _; simp) rfl (by unfold maxLen; omega) (by omega) (by simp; omega) ?_; intro v2 w2 ho2 hb2 hg2 hat2)
        go_roundw
        case rel => exact ⟨k + 1, by omega, by go_num, by rw [HZN.out]; exact Own.kept hsa hg2 (.inr (fun e => hne e.symm)), by rw [← HGN.out]; exact ho2, (hbel.trans hsb).trans hb2, by
          rcases hat2 with h2 | h2
          · rw [h2]; exact hne
          · rw [h2]; intro e; injection e with e; have := hall.lt g rfl; simp at e; omega⟩
        case measure => simp [intOf]; omega
      | false =>
        have HZN : Hid (zeroL l lost (k + 1) = zeroL l lost k) := by unfold Hid; rw [hZN]; rfl
        have HGN : Hid (goneL lost (k + 1) = goneL lost k) := by unfold Hid; rw [hGN]; simp
        have hfe : fldErr [x] = 0 := by
          have h1 : badF x = false := by
            have : l.getD k 0 = x := by rw [List.getD_eq_getElem?_getD, hx]; rfl
            rw [this] at hbad; exact hbad
          unfold fldErr; simp [h1]
        have c1 := field_Check1 x 0 wr hfe
        clear hZN hGN hx hy hls hbad hzk hfe
        go_wp2_with (go_at_call 40; refine c1.mono ?_; clear c1; rintro e w2 ⟨rfl, m2, rfl⟩)
        go_roundw
        case rel => exact ⟨k + 1, by omega, by go_num, by rw [HZN.out]; exact (hall.alloc _).drewN m2, by rw [HGN.out]; exact (hgone.alloc _).drewN m2, below_drewN (hbel.alloc (by omega) _) m2, hne⟩
        case measure => simp [intOf]; omega
    · obtain rfl : k = K := by omega
      obtain ⟨ad, x, rfl, hb, hx, hc0⟩ := h.int_at hK
      obtain ⟨ad', y, rfl, hb', hy, hc0'⟩ := h'.bool_at hK
      have hBx : w.heap.size + 1 ≤ wr.heap.size := by have := hbel.size; simpa using this
      have hc : wr.cell? (ad.add k) = some (.int .i64 x) := (hbel.cell (by rw [block_of_add]; omega)).trans ((World.cell?_alloc_lt w _ _ (by rw [block_of_add]; exact hb)).trans hc0)
      have hc' : wr.cell? (ad'.add k) = some (.bool y) := (hbel.cell (by rw [block_of_add]; omega)).trans ((World.cell?_alloc_lt w _ _ (by rw [block_of_add]; exact hb')).trans hc0')
      have hls : lsB lost k = y := by unfold lsB; rw [List.getD_eq_getElem?_getD, hy]; rfl
      have hbad := HB.out
      unfold badAt at hbad
      rw [hls] at hbad
      cases y with
      | true => cases hbad
      | false =>
        have hfe : fldErr [x] = 4 := by
          have h1 : badF x = true := by
            have : l.getD k 0 = x := by rw [List.getD_eq_getElem?_getD, hx]; rfl
            rw [this] at hbad; exact hbad
          unfold fldErr; simp [h1]
        have c1 := field_Check1 x 4 wr hfe
        clear hx hy hls hbad hfe
        go_wp2_with (go_at_call 40; refine c1.mono ?_; clear c1; rintro e w2 ⟨rfl, m2, rfl⟩)
        go_ret2
        exact ⟨rfl, ((Below.refl _ _).alloc (Nat.le_refl _) _).trans (below_drewN ((hbel.mono (by omega)).alloc (by omega) _) m2)⟩
set_option maxRecDepth 100000 in
set_option maxHeartbeats 1600000 in
theorem double_Fill_many (A A' : Option Addr) (n c c' : Nat) (l : List Int) (lost : List Bool) (w : World) (h : Reads w w.heap.size A n (vi .i64 l)) (h' : Reads w w.heap.size A' n (vb lost)) (h3 : 3 ≤ n) (h14 : n ≤ 14) (HOK : Hid (∀ j, j < n → badAt l lost j = false)) (hG : Hid (2 < (goneL lost n).length)) :
    Calls Try.prog 31 #[.slice A n c, .slice A' n c'] w (RetB w (.tuple #[.slice none 0 0, .int .i64 5])) := by
  obtain ⟨K, hKn⟩ : ∃ K, K = n := ⟨_, rfl⟩
  have HKN := Lib.hid hKn
  have hK : K ≤ n := by omega
  have hK2 : n ≤ K := by omega
  rw [← hKn] at HOK
  clear hKn
  have HL := Lib.hid h.int_len
  have HL' := Lib.hid h'.bool_len
  have c7' := clone_ints A n c (vi .i64 l) (w.alloc (.cells #[.int .i64 ((n : Int) - 2)] 3)) ((h.alloc (Nat.le_refl _) _).more (by simp)) (fun u hu => by obtain ⟨z, _, rfl⟩ := List.mem_map.1 hu; rfl) (by omega)
  have i1 : (1 : Int) ≤ (n : Int) - 2 := by omega
  have i2 : (n : Int) - 2 ≤ 12 := by omega
  have i3 : ¬ (n : Int) - 2 < 1 := by omega
  have i4 : ¬ (12 : Int) < (n : Int) - 2 := by omega
  have i5 : ((n : Int) != (n : Int)) = false := by simp
  go_enter Try.func31, Try.ntmps31
  go_wp2_with (go_at_call 51; refine c7'.mono ?_; clear c7'; rintro e w7 ⟨A7, n7, c7, rfl, ho7, hb7⟩; rw [show (w.alloc (.cells #[.int .i64 ((n : Int) - 2)] 3)).heap.size = w.heap.size + 1 from by simp] at ho7 hb7; obtain rfl : n = n7 := (by have := ho7.reads.int_len; rw [HL.out] at this; exact this); obtain ⟨ad7, rfl⟩ := ho7.reads.addr (by omega); obtain ⟨g, rfl, hg7, _⟩ := ho7.addr; have hcap7 := ho7.capLe')
  go_loopw [8, 34] (fun gv iv wr => ∃ k : Nat, k ≤ K ∧ iv = .int .i64 k ∧ Own wr (w.heap.size + 1) 3 (.slice (some ⟨g, 0, none⟩) n c7) (vi .i64 (zeroL l lost k)) ∧ Own wr (w.heap.size + 1) 3 gv (vn .i64 (goneL lost k)) ∧ Below (w.heap.size + 1) (w.alloc (.cells #[.int .i64 ((n : Int) - 2)] 3)) wr ∧ gv.ownBlock ≠ some g) (fun _ iv _ => n - (intOf iv).toNat)
  case atStart => exact ⟨0, by omega, rfl, by rw [zeroL_zero]; exact ho7, Own.nil _ _ _, hb7, by simp [Value.ownBlock]⟩
  case round =>
    obtain ⟨k, hk, rfl, hall, hgone, hbel, hne⟩ := hrel
    by_cases hlt : k < K
    · have hkn : k < n := by omega
      obtain ⟨ad, x, rfl, hb, hx, hc0⟩ := h.int_at hkn
      obtain ⟨ad', y, rfl, hb', hy, hc0'⟩ := h'.bool_at hkn
      have hBx : w.heap.size + 1 ≤ wr.heap.size := by have := hbel.size; simpa using this
      have hc : wr.cell? (ad.add k) = some (.int .i64 x) := (hbel.cell (by rw [block_of_add]; omega)).trans ((World.cell?_alloc_lt w _ _ (by rw [block_of_add]; exact hb)).trans hc0)
      have hc' : wr.cell? (ad'.add k) = some (.bool y) := (hbel.cell (by rw [block_of_add]; omega)).trans ((World.cell?_alloc_lt w _ _ (by rw [block_of_add]; exact hb')).trans hc0')
      have hls : lsB lost k = y := by unfold lsB; rw [List.getD_eq_getElem?_getD, hy]; rfl
      have hZN := zeroL_next (lost := lost) (show k < l.length by rw [HL.out]; exact hkn)
      have hGN := goneL_next lost k
      have hzk := zeroL_at (lost := lost) (k := k) hx
      rw [show decide (k < k) = false by simp, Bool.false_and, if_neg (by simp)] at hzk
      rw [hls] at hZN hGN
      have hbad := HOK.out k hlt
      unfold badAt at hbad
      rw [hls] at hbad
      have hgl : (vn .i64 (goneL lost k)).length ≤ 14 := by rw [List.length_map]; unfold goneL; have := filt_len (lsB lost) k; omega
      cases y with
      | true =>
        have HZN : Hid (zeroL l lost (k + 1) = (zeroL l lost k).set k 0) := by unfold Hid; rw [hZN]; rfl
        have HGN : Hid (vn .i64 (goneL lost k) ++ [Value.int .i64 (k : Int)] = vn .i64 (goneL lost (k + 1))) := by unfold Hid; rw [hGN]; simp [vn]
        have hca := hall.cell (j := k) (u := .int .i64 x) (by rw [List.getElem?_map, hzk]; rfl)
        have hfa := hall.frozenAt k
        have hsa := hall.set k (.int .i64 0)
        have hsg := hgone.setOther ⟨g, k, none⟩ (.int .i64 0) hne
        have hsb := hall.setBelow (Nat.le_refl _) k (.int .i64 0)
        have hgs := grown_setCellY wr ⟨g, k, none⟩ (.int .i64 0)
        rw [add_row] at hca hfa hsa hsb
        rw [vi_set] at hsa
        clear hZN hGN hx hy hls hbad hzk
        go_wp2_with (at_builtin; refine app1 el_intD rfl _ _ rfl rfl hsg (.int .i64 (k : Int)) _ (by show Value.slice (some ⟨wr.heap.size, 0, none⟩) 1 1 = _; simp) rfl (by unfold maxLen; omega) (by omega) (by simp; omega) ?_; intro v2 w2 ho2 hb2 hg2 hat2)
        go_roundw
        case rel => exact ⟨k + 1, by omega, by go_num, by rw [HZN.out]; exact Own.kept hsa hg2 (.inr (fun e => hne e.symm)), by rw [← HGN.out]; exact ho2, (hbel.trans hsb).trans hb2, by
          rcases hat2 with h2 | h2
          · rw [h2]; exact hne
          · rw [h2]; intro e; injection e with e; have := hall.lt g rfl; simp at e; omega⟩
        case measure => simp [intOf]; omega
      | false =>
        have HZN : Hid (zeroL l lost (k + 1) = zeroL l lost k) := by unfold Hid; rw [hZN]; rfl
        have HGN : Hid (goneL lost (k + 1) = goneL lost k) := by unfold Hid; rw [hGN]; simp
        have hfe : fldErr [x] = 0 := by
          have h1 : badF x = false := by
            have : l.getD k 0 = x := by rw [List.getD_eq_getElem?_getD, hx]; rfl
            rw [this] at hbad; exact hbad
          unfold fldErr; simp [h1]
        have c1 := field_Check1 x 0 wr hfe
        clear hZN hGN hx hy hls hbad hzk hfe
        go_wp2_with (go_at_call 40; refine c1.mono ?_; clear c1; rintro e w2 ⟨rfl, m2, rfl⟩)
        go_roundw
        case rel => exact ⟨k + 1, by omega, by go_num, by rw [HZN.out]; exact (hall.alloc _).drewN m2, by rw [HGN.out]; exact (hgone.alloc _).drewN m2, below_drewN (hbel.alloc (by omega) _) m2, hne⟩
        case measure => simp [intOf]; omega
    · have hkk := hK2
      have e : k = n := by omega
      have hgl : (vn .i64 (goneL lost k)).length = (goneL lost k).length := List.length_map _
      have hG2 : 2 < (goneL lost k).length := by rw [e]; exact hG.out
      have hG3 : (goneL lost k).length ≤ 14 := by unfold goneL; have := filt_len (lsB lost) k; omega
      obtain ⟨A8, c8, e8⟩ := hgone.form
      rw [hgl] at e8
      subst e8
      clear e hgl
      generalize (goneL lost k).length = G at *
      have j1 : (2 : Int) < (G : Int) := by omega
      have j2 : ¬ (k : Int) < (n : Int) := by omega
      go_wp2
      go_ret2
      exact ⟨rfl, ((Below.refl _ _).alloc (Nat.le_refl _) _).trans (hbel.mono (by omega))⟩
end Go.Proofs.Ythbmnaonnebnhaa

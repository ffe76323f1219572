/-
  quipuref.Filled: the last places that are there.
-/
import Derived.Test.YthbmnaonnebnhaaPtsf
set_option linter.unusedVariables false
namespace Go.Proofs.Ythbmnaonnebnhaa
open Go.RowKit

def downP (lost : List Bool) (n r : Nat) : List Nat := ((List.range' r (n - r)).filter fun j => !(lost.getD j false)).reverse
theorem downP_end (lost : List Bool) (n : Nat) : downP lost n n = [] := by unfold downP; rw [Nat.sub_self]; rfl
theorem downP_all (lost : List Bool) (n : Nat) : downP lost n 0 = (presL lost n).reverse := by unfold downP presL; rw [Nat.sub_zero, List.range_eq_range']
theorem downP_lost {lost : List Bool} {n r : Nat} (hr : r < n) (h : lost[r]? = some true) : downP lost n r = downP lost n (r + 1) := by
  unfold downP
  rw [show n - r = (n - (r + 1)) + 1 by omega, List.range'_succ]
  simp [h]
theorem downP_next {lost : List Bool} {n r : Nat} (hr : r < n) (h : lost[r]? = some false) : downP lost n r = downP lost n (r + 1) ++ [r] := by
  unfold downP
  rw [show n - r = (n - (r + 1)) + 1 by omega, List.range'_succ]
  simp [h]
theorem downP_le (lost : List Bool) (n r : Nat) : (downP lost n r).length ≤ n := by
  unfold downP
  have := List.length_filter_le (fun j => !(lost.getD j false)) (List.range' r (n - r))
  rw [List.length_reverse]
  simp at this ⊢
  omega
set_option maxRecDepth 100000 in
set_option maxHeartbeats 4000000 in
theorem ref_Filled (k : Nat) (A A' : Option Addr) (n c c' : Nat) (l : List Int) (lost : List Bool) (w : World) (h : Reads w w.heap.size A n (vi .i64 l)) (hlo : Reads w w.heap.size A' n (vb lost)) (hn : n ≤ 9) (hk1 : 1 ≤ k) (hkn : k ≤ n) (hany : ptsAny l lost n = false) :
    Calls Try.prog 35 #[.int .i64 (k : Int), .slice A n c, .slice A' n c'] w (PtP w (ptsF k n l lost) (ptsD k n l lost)) := by
  go_enter Try.func35, Try.ntmps35
  go_wp2
  go_loopw [8, 9] (fun v8 v9 wr => ∃ r : Nat, r ≤ n ∧ v9 = .int .i64 ((r : Int) - 1) ∧ Own wr w.heap.size 3 v8 (vn .i64 (downP lost n r)) ∧ Below w.heap.size w wr) (fun _ i _ => (intOf i + 1).toNat)
  case atStart => exact ⟨n, by omega, rfl, by rw [downP_end]; exact Own.nil _ _ _, Below.refl _ _⟩
  case round =>
    obtain ⟨r, hr, e9, hown, hbel⟩ := hrel
    obtain ⟨wo, rfl⟩ : ∃ x, x = wr := ⟨_, rfl⟩
    have hso := hbel.size
    have hro := h.below hbel
    have hloo := hlo.below hbel
    have hPle := downP_le lost n r
    have HOWN := Lib.hid hown
    by_cases hlt : 0 < r
    · obtain ⟨j, rfl⟩ : ∃ j, r = j + 1 := ⟨r - 1, by omega⟩
      rw [show ((j + 1 : Nat) : Int) - 1 = (j : Int) by omega] at e9
      subst e9
      have i1 : (j : Int) < (n : Int) := by omega
      have i0 : (0 : Int) ≤ (j : Int) := by omega
      obtain ⟨ad', b, e, _, hb, hcb⟩ := hloo.bool_at (k := j) (by omega)
      subst e
      have HB := Lib.hid hb
      clear hb hro hloo h hlo hown
      cases b
      · have HN := Lib.hid (downP_next (n := n) (by omega) HB.out)
        have hl1 : (vn .i64 (downP lost n (j + 1))).length ≤ 9 := by
          have : (vn .i64 (downP lost n (j + 1))).length = (downP lost n (j + 1)).length := by simp [vn]
          omega
        have hvs : vn .i64 (downP lost n (j + 1)) ++ [Value.int .i64 (j : Int)] = vn .i64 (downP lost n j) := by rw [HN.out]; simp [vn]
        have HVS := Lib.hid hvs
        clear hvs hPle
        go_wp2_with (at_builtin; refine app1 el_intP rfl _ _ rfl rfl HOWN.out _ _ rfl rfl (by unfold maxLen; omega) (by omega) hso ?_; intro v6 w5 ho6 hb6 hg6 hat6)
        rw [HVS.out] at ho6
        have hB7 := hbel.trans hb6
        go_roundw
        case rel => exact ⟨j, by omega, rfl, ho6, hB7⟩
        case measure => simp [intOf] <;> omega
      · have HN := Lib.hid (downP_lost (n := n) (by omega) HB.out)
        go_wp2
        go_roundw
        case rel => exact ⟨j, by omega, rfl, by rw [HN.out]; exact HOWN.out, hbel⟩
        case measure => simp [intOf] <;> omega
    · obtain rfl : r = 0 := by omega
      rw [show ((0 : Nat) : Int) - 1 = -1 by rfl] at e9
      subst e9
      rw [downP_all] at hown HOWN hPle
      obtain ⟨A9, c9, e9⟩ := hown.form
      have hvl : (vn .i64 (presL lost n).reverse).length = (presL lost n).reverse.length := by simp [vn]
      rw [hvl] at e9
      subst e9
      have hgood : ∀ j, j < n → badJ l lost j = false := fun j hj => by
        unfold ptsAny at hany
        have := List.any_eq_false.1 hany j (List.mem_range.2 hj)
        simpa using this
      have hok : okPs (presL lost n) := fun j hj => by have := (presL_mem.1 hj).1; omega
      have hnd := presL_nodup lost n
      have hP : ∀ j ∈ (presL lost n).reverse, j < n := fun j hj => (presL_mem.1 (List.mem_reverse.1 hj)).1
      have hl16 : ∀ j ∈ presL lost n, 0 ≤ l.getD j 0 ∧ l.getD j 0 < 16 := fun j hj => by
        obtain ⟨h1, h2⟩ := presL_mem.1 hj
        have h3 := hgood j h1
        unfold badJ at h3
        rw [h2] at h3
        have h4 := badF_ok (z := l.getD j 0) (by simpa using h3)
        omega
      have hF : ptsF k n l lost = if (presL lost n).reverse.length < k then 5 else if misB l (ptsD k n l lost) (presL lost n) then 8 else 0 := by unfold ptsF; rw [hany, List.length_reverse]; rfl
      clear hvl hany hgood
      by_cases hpk : (presL lost n).reverse.length < k
      · have HF : Hid (ptsF k n l lost = 5) := by unfold Hid; rw [hF, if_pos hpk]
        have j1 : ((presL lost n).reverse.length : Int) < (k : Int) := by omega
        generalize (presL lost n).reverse.length = p at *
        clear hF
        go_wp2
        go_ret2
        exact PtP.bad HF.out (by decide) hbel
      · rw [if_neg hpk] at hF
        have j1 : ¬ ((presL lost n).reverse.length : Int) < (k : Int) := by omega
        obtain ⟨hW1, hW2⟩ := both_ways hok hnd hl16 (k := k) (by rw [List.length_reverse] at hpk; omega)
        have hcap := hown.capLeP
        have hR : Reads wo wo.heap.size A9 k (vn .i64 ((presL lost n).reverse.take k)) := by
          have := hown.reads.take (k := k) (by omega)
          rwa [← List.map_take] at this
        have hk0 : ((presL lost n).reverse.take k).length = k := by rw [List.length_take]; omega
        have hin2 : ∀ j ∈ (presL lost n).reverse.take k, j ∈ presL lost n := fun j hj => List.mem_reverse.1 (List.mem_of_mem_take hj)
        have hn2 : ((presL lost n).reverse.take k).Nodup := (show (presL lost n).reverse.Nodup from List.pairwise_reverse.2 (hnd.imp fun h => Ne.symm h)).sublist (List.take_sublist _ _)
        obtain ⟨hd16, hdl, _⟩ := nw_props (lv := lvI l) (all := (presL lost n).reverse.take k) (fun j hj => hok j (hin2 j hj)) (fun j hj => by have := hl16 j (hin2 j hj); unfold lvI; omega) hn2 k (by omega)
        have cT := ref_through A A9 n k c c9 l ((presL lost n).reverse.take k) wo (hro.more hbel.size) hR (by omega) hn (by omega) (fun j hj => hP j (List.mem_of_mem_take hj)) hn2 (fun j hj => hl16 j (hin2 j hj))
        have hcapI : (k : Int) ≤ (c9 : Int) := by omega
        have hOff := misB_off (l := l) (lost := lost) (d := nwK (lvI l) ((presL lost n).reverse.take k) k) (n := n)
        have hcle := cntO_le (offB l lost (nwK (lvI l) ((presL lost n).reverse.take k) k)) n
        rw [hW1] at hOff
        have hE : lagL (lvI l) ((presL lost n).take k) ((presL lost n).take k) = ptsD k n l lost := rfl
        rw [hE] at hOff hW2
        have HH := Lib.hid h
        have HRO := Lib.hid (hro.more hbel.size)
        have HLOO := Lib.hid (hloo.more hbel.size)
        have HD16 := Lib.hid hd16
        have cO := fun (A6 : Option Addr) (c6 : Nat) (w6 : World) (hb6 : Below wo.heap.size wo w6) (ho6 : Reads w6 w6.heap.size A6 k (vn .i64 (nwK (lvI l) ((presL lost n).reverse.take k) k))) => ref_off A A' A6 n c c' k c6 l (nwK (lvI l) ((presL lost n).reverse.take k) k) lost w6 ((HRO.out.below hb6).more hb6.size) ((HLOO.out.below hb6).more hb6.size) ho6 hn (by omega) HD16.out
        clear hW1 hE hk0 hR hd16 h hlo hro hloo hown hP hok hnd hl16 hin2 hn2
        generalize hD : ptsD k n l lost = d at *
        generalize hD2 : nwK (lvI l) ((presL lost n).reverse.take k) k = e2 at *
        generalize hcc : cntO (offB l lost e2) n = cc at *
        have HDL := Lib.hid hdl
        have HF := Lib.hid hF
        have HW2 := Lib.hid hW2
        generalize hp : (presL lost n).reverse.length = p at *
        generalize presL lost n = P at *
        have k0 : (0 : Int) ≤ (k : Int) := by omega
        clear hF hW2 hdl hD hD2 hcc hp
        cases hm : misB l d P
        all_goals
          rw [hm] at HF hOff
          rw [hm] at HW2
          clear hm
          have HW3 := Lib.hid HW2.out
          have jc := hOff
          simp only [decide_eq_true_eq, decide_eq_false_iff_not] at jc
          have jI : ((0 : Int) < (cc : Int)) ↔ (0 < cc) := by omega
          rw [← jI] at jc
          clear jI hOff
          go_wp2_with (first
            | (go_at_call 59; refine cT.mono ?_; clear cT; rintro e w6 ⟨A6, n6, c6, rfl, ho6, hb6⟩; obtain rfl : k = n6 := (by have := ho6.reads.nat_len; rw [HDL.out] at this; exact this); have cO := cO A6 c6 w6 hb6 ho6.reads)
            | (go_at_call 60; refine cO.mono ?_; clear cO; rintro e w7 ⟨rfl, hb7⟩))
          go_ret2
          have hBe : Below w.heap.size w w7 := hbel.trans ((hb6.trans (hb7.mono hb6.size)).mono hbel.size)
          first
            | exact PtP.bad HF.out (by decide) hBe
            | exact ⟨fun h => absurd HF.out h, fun _ => ⟨A6, k, c6, rfl, (by rw [HW3.out trivial]; exact (Own.low ho6 hso).below hb7 (Nat.le_refl _)), hBe⟩⟩
end Go.Proofs.Ythbmnaonnebnhaa

/-
  quipuref.Next: the next list, or none.
-/
import Derived.Test.YtmepiiheidmbgaaRankl
import Derived.Test.YtmepiiheidmbgaaStore
import Derived.Test.YtmepiiheidmbgaaAppz
import Derived.Test.YtmepiiheidmbgaaQuiet
import Derived.Test.YtmepiiheidmbgaaInts
import Derived.Deep.RegionLaw
set_option linter.unusedVariables false
namespace Go.Proofs.Ytmepiiheidmbgaa
open Go.RowKit

theorem el_intN : Elem Try.prog 50 3 (.int .i64 0) 8 := Elem.mk' Try.underlying50 (by kernel_rfl) rfl
theorem vn_oneN (K : IntKind) (l : List Nat) : ∀ u ∈ vn K l, u.oneCell' = true := by
  intro u hu; obtain ⟨b, _, rfl⟩ := List.mem_map.1 hu; rfl
/-- the part from s on, turned t steps from both sides -/
def rvL (L : List Nat) (s t : Nat) : List Nat := (List.range L.length).map fun p => if s ≤ p ∧ (p < s + t ∨ L.length - 1 - t < p) then L.getD (L.length - 1 + s - p) 0 else L.getD p 0
theorem rvL_len (L : List Nat) (s t : Nat) : (rvL L s t).length = L.length := by simp [rvL]
theorem rvL_zero (L : List Nat) (s : Nat) : rvL L s 0 = L := by
  unfold rvL
  apply List.ext_getElem (by simp)
  intro i h1 h2
  simp only [List.getElem_map, List.getElem_range]
  rw [if_neg (by omega), List.getD_eq_getElem?_getD, List.getElem?_eq_getElem h2]; rfl
theorem rvL_at (L : List Nat) (s t p : Nat) (hp : p < L.length) (h : ¬ (s ≤ p ∧ (p < s + t ∨ L.length - 1 - t < p))) : (rvL L s t)[p]? = some (L.getD p 0) := by
  unfold rvL; rw [List.getElem?_map, List.getElem?_range hp]; simp only [Option.map_some]; rw [if_neg h]
theorem rvL_next (L : List Nat) (s t : Nat) (h : s + t < L.length - 1 - t) : ((rvL L s t).set (s + t) (L.getD (L.length - 1 - t) 0)).set (L.length - 1 - t) (L.getD (s + t) 0) = rvL L s (t + 1) := by
  unfold rvL
  apply List.ext_getElem (by simp)
  intro i h1 h2
  have hi : i < L.length := by simpa using h2
  rw [List.getElem_set, List.getElem_set]
  simp only [List.getElem_map, List.getElem_range]
  by_cases e1 : L.length - 1 - t = i
  · rw [if_pos e1, if_pos (by omega)]
    congr 1; omega
  · rw [if_neg e1]
    by_cases e2 : s + t = i
    · rw [if_pos e2, if_pos (by omega)]
      congr 1; omega
    · rw [if_neg e2]
      by_cases e3 : s ≤ i ∧ (i < s + t ∨ L.length - 1 - t < i)
      · rw [if_pos e3, if_pos (by omega)]
      · rw [if_neg e3, if_neg (by omega)]
theorem rvL_full (L : List Nat) (s t : Nat) (hs : s ≤ L.length) (h : L.length ≤ s + t + 1 + t) (h2 : 2 * t ≤ L.length - s) : rvL L s t = L.take s ++ (L.drop s).reverse := by
  unfold rvL
  apply List.ext_getElem (by simp; omega)
  intro i h1 h2
  have hi : i < L.length := by simpa using h1
  simp only [List.getElem_map, List.getElem_range]
  by_cases e : i < s
  · rw [if_neg (by omega), List.getElem_append_left (by simp; omega), List.getElem_take, List.getD_eq_getElem?_getD, List.getElem?_eq_getElem hi]; rfl
  · rw [List.getElem_append_right (by simp; omega), List.getElem_reverse, List.getElem_drop]
    have hk : s + ((L.drop s).length - 1 - (i - (L.take s).length)) = L.length - 1 + s - i := by simp; omega
    simp only [hk]
    have hb : L.length - 1 + s - i < L.length := by omega
    by_cases e2 : s ≤ i ∧ (i < s + t ∨ L.length - 1 - t < i)
    · rw [if_pos e2, List.getD_eq_getElem?_getD, List.getElem?_eq_getElem hb]; rfl
    · rw [if_neg e2]
      have : i = L.length - 1 + s - i := by omega
      rw [List.getD_eq_getElem?_getD, List.getElem?_eq_getElem hi]
      simp only [Option.getD_some]
      congr 1
theorem nxL_swap (l : List Nat) (i j : Nat) (hij : i < j) (hj : j < l.length) : ((l.set i (l.getD j 0)).set j (l.getD i 0)).take (i + 1) ++ (((l.set i (l.getD j 0)).set j (l.getD i 0)).drop (i + 1)).reverse = nxL l i j := by
  unfold nxL
  have e1 : ((l.set i (l.getD j 0)).set j (l.getD i 0)).take (i + 1) = l.take i ++ [l.getD j 0] := by
    apply List.ext_getElem (by simp; omega)
    intro k h1 h2
    have hk : k < i + 1 := by simp at h1; omega
    rw [List.getElem_take, List.getElem_set, if_neg (by omega), List.getElem_set]
    by_cases e : i = k
    · subst e
      rw [if_pos rfl, List.getElem_append_right (by simp; omega)]
      simp
    · rw [if_neg e, List.getElem_append_left (by simp; omega), List.getElem_take]
  have e2 : ((l.set i (l.getD j 0)).set j (l.getD i 0)).drop (i + 1) = (l.set j (l.getD i 0)).drop (i + 1) := by
    apply List.ext_getElem (by simp)
    intro k h1 h2
    rw [List.getElem_drop, List.getElem_drop, List.getElem_set, List.getElem_set, List.getElem_set]
    by_cases e : j = i + 1 + k
    · rw [if_pos e, if_pos e]
    · rw [if_neg e, if_neg e, if_neg (by omega)]
  rw [e1, e2]
  simp
theorem vn_setN (l : List Nat) (j b : Nat) : (vn .i64 l).set j (.int .i64 (b : Int)) = vn .i64 (l.set j b) := by unfold vn; rw [List.map_set]
theorem getD_at {l : List Nat} {k : Nat} (h : k < l.length) : l[k]? = some (l.getD k 0) := by
  rw [List.getD_eq_getElem?_getD, List.getElem?_eq_getElem h]; rfl
theorem desc_at {l : List Nat} {s p : Nat} (h : (l.drop s).Pairwise (· > ·)) (hs : s ≤ p) (hp : p + 1 < l.length) : l.getD (p + 1) 0 < l.getD p 0 := by
  have := List.pairwise_iff_getElem.1 h (p - s) (p + 1 - s) (by simp; omega) (by simp; omega) (by omega)
  rw [List.getElem_drop, List.getElem_drop] at this
  have e1 : s + (p - s) = p := by omega
  have e2 : s + (p + 1 - s) = p + 1 := by omega
  simp only [e1, e2] at this
  rw [List.getD_eq_getElem?_getD, List.getElem?_eq_getElem (by omega), List.getD_eq_getElem?_getD, List.getElem?_eq_getElem (by omega)]
  exact this
set_option maxRecDepth 100000 in
set_option maxHeartbeats 1600000 in
theorem ref_Next (A : Option Addr) (n c i j : Nat) (l : List Nat) (w : World) (h : Reads w w.heap.size A n (vn .i64 l)) (hn : n ≤ 8) (hx : Hid (NextAt l i j)) :
    Calls Try.prog 37 #[.slice A n c] w (fun e w' => Below w.heap.size w w' ∧ ∃ A' c', e = .returned (.tuple #[.slice A' n c', .bool true]) ∧ Own w' w.heap.size 3 (.slice A' n c') (vn .i64 (nxL l i j))) := by
  have H := Lib.hid h.nat_len
  have hij : i < j := hx.out.ij
  have hjn : j < n := by have := hx.out.jl; have := H.out; omega
  have hoE : Own (w.alloc (.cells #[] 3)) w.heap.size 3 (.slice (some ⟨w.heap.size, 0, none⟩) 0 0) [] := Own.built w #[] 0 rfl (by unfold maxLen; omega) (Nat.le_refl _)
  have hrE : Reads (w.alloc (.cells #[] 3)) w.heap.size A n (vn .i64 l) := h.alloc (Nat.le_refl _) _
  have hbE : Below w.heap.size w (w.alloc (.cells #[] 3)) := (Below.refl _ _).alloc (Nat.le_refl _) _
  go_enter Try.func37, Try.ntmps37
  go_wp2_with (at_builtin; refine appN el_intN rfl _ _ rfl rfl hoE rfl hrE (vn_oneN _ _) (by simp; unfold maxLen; omega) (by simp; omega) hbE.size ?_; clear hoE; intro v1 w1 ho1 hb1 _ _; rw [List.nil_append] at ho1; have hbel := hbE.trans hb1; obtain ⟨A1, c1, e1⟩ := ho1.form; rw [List.length_map, H.out] at e1; subst e1; obtain ⟨ad1, rfl, _⟩ := ho1.reads.cells (by omega); obtain ⟨g, rfl, hgw, hg2⟩ := ho1.addr)
  have hc1 := Lib.hid (show ∀ k, k < n → w1.cell? ⟨g, k, none⟩ = some (.int .i64 ((l.getD k 0 : Nat) : Int)) from fun k hk => by
    have := ho1.cell (j := k) (u := .int .i64 ((l.getD k 0 : Nat) : Int)) (by rw [List.getElem?_map, getD_at (by rw [H.out]; exact hk)]; rfl)
    rwa [add_row] at this)
  go_loopw [5] (fun v wr => ∃ p t : Nat, i ≤ p ∧ p + 2 ≤ n ∧ v = .int .i64 (p : Int) ∧ wr = w1.drewN t) (fun v _ => (intOf v).toNat)
  case atStart => exact ⟨n - 2, 0, by omega, by omega, by go_num, rfl⟩
  case round =>
    obtain ⟨p, t, hp, hpn, rfl, rfl⟩ := hrel
    have hcp := hc1.out p (by omega)
    have hcq := hc1.out (p + 1) (by omega)
    have p0 : (0 : Int) ≤ (p : Int) := by omega
    have p1 : (p : Int) < (n : Int) := by omega
    have p2 : (p : Int) + 1 < (n : Int) := by omega
    have p3 : (0 : Int) ≤ (p : Int) + 1 := by omega
    have p4 : ((p : Int) + 1).toNat = p + 1 := by omega
    have p5 : IntKind.i64.wrap ((p : Int) + 1) = (p : Int) + 1 := IntWalk.i64_in _ (by omega)
    have d0 : decide (0 ≤ (p : Int)) = true := by simp
    by_cases hpi : p = i
    · subst hpi
      have hup := hx.out.up
      obtain ⟨xp, hxp⟩ : ∃ x, l.getD p 0 = x := ⟨_, rfl⟩
      obtain ⟨xq, hxq⟩ : ∃ x, l.getD (p + 1) 0 = x := ⟨_, rfl⟩
      rw [hxp, hxq] at hup
      rw [hxp] at hcp
      rw [hxq] at hcq
      have t1 : ¬ (xq : Int) < (xp : Int) := by omega
      have t2 : decide ((xq : Int) < (xp : Int)) = false := by simp; omega
      have HXP := Lib.hid hxp
      clear hxp hxq hup
      go_wp2
      go_quiet (fail)
      go_wp2
      have q1 : ¬ (p : Int) < 0 := by omega
      go_wp2
      clear hc1 hb1
      obtain ⟨wq, hwq⟩ : ∃ wq, w1.drewN (t + nq) = wq := ⟨_, rfl⟩
      have hoq : Own wq w.heap.size 3 (.slice (some ⟨g, 0, none⟩) n c1) (vn .i64 l) := by rw [← hwq]; exact ho1.drewN _
      have hbq : Below w.heap.size w wq := by rw [← hwq]; exact below_drewN hbel _
      have hw2 : (w1.drewN t).drewN nq = wq := by rw [← hwq, World.drewN_drewN]
      first | rw [hw2] | rw [hwq]
      clear hw2 hwq ho1 hbel hcp hcq
      have hc2 := Lib.hid (show ∀ k, k < n → wq.cell? ⟨g, k, none⟩ = some (.int .i64 ((l.getD k 0 : Nat) : Int)) from fun k hk => by
        have := hoq.cell (j := k) (u := .int .i64 ((l.getD k 0 : Nat) : Int)) (by rw [List.getElem?_map, getD_at (by rw [H.out]; exact hk)]; rfl)
        rwa [add_row] at this)
      go_loopw [6] (fun v wr => ∃ q t : Nat, j ≤ q ∧ q + 1 ≤ n ∧ v = .int .i64 (q : Int) ∧ wr = wq.drewN t) (fun v _ => (intOf v).toNat)
      case atStart => exact ⟨n - 1, 0, by omega, by omega, by go_num, rfl⟩
      case round =>
        clear t
        obtain ⟨q, t, hqj, hqn, rfl, rfl⟩ := hrel
        have hcp := hc2.out p (by omega)
        have hcq := hc2.out q (by omega)
        rw [HXP.out] at hcp
        have r0 : (0 : Int) ≤ (q : Int) := by omega
        have r1 : (q : Int) < (n : Int) := by omega
        by_cases hqe : q = j
        · subst hqe
          have hbig := hx.out.big
          rw [HXP.out] at hbig
          obtain ⟨xj, hxj⟩ : ∃ x, l.getD q 0 = x := ⟨_, rfl⟩
          rw [hxj] at hcq hbig
          have HXJ := Lib.hid hxj
          have s1 : ¬ (xj : Int) < (xp : Int) := by omega
          have s2 : decide ((xj : Int) < (xp : Int)) = false := by simp; omega
          clear hxj hbig
          go_wp2
          go_quiet (fail)
          go_wp2
          have hw3 : ∃ wz, (wq.drewN t).drewN nq = wz ∧ wq.drewN (t + nq) = wz := ⟨_, rfl, by rw [World.drewN_drewN]⟩
          obtain ⟨wz, hwz1, hwz2⟩ := hw3
          have hoz : Own wz w.heap.size 3 (.slice (some ⟨g, 0, none⟩) n c1) (vn .i64 l) := by rw [← hwz2]; exact hoq.drewN _
          have hbz : Below w.heap.size w wz := by rw [← hwz2]; exact below_drewN hbq _
          first | rw [hwz1] | rw [hwz2]
          clear hwz1 hwz2 hoq hbq hcp hcq hc2
          have hcp : wz.cell? ⟨g, p, none⟩ = some (.int .i64 (xp : Int)) := by
            have := hoz.cell (j := p) (u := .int .i64 (xp : Int)) (by rw [List.getElem?_map, getD_at (by rw [H.out]; omega), HXP.out]; rfl)
            rwa [add_row] at this
          have hcq : wz.cell? ⟨g, q, none⟩ = some (.int .i64 (xj : Int)) := by
            have := hoz.cell (j := q) (u := .int .i64 (xj : Int)) (by rw [List.getElem?_map, getD_at (by rw [H.out]; omega), HXJ.out]; rfl)
            rwa [add_row] at this
          have hfp : wz.frozen? ⟨g, p, none⟩ = false := by have := hoz.frozenAt p; rwa [add_row] at this
          have hfq : wz.frozen? ⟨g, q, none⟩ = false := by have := hoz.frozenAt q; rwa [add_row] at this
          have hs1 := ((hoz.set p (.int .i64 (xj : Int))).set q (.int .i64 (xp : Int))).drew
          have hb1 := (hoz.setBelow (Nat.le_refl _) p (.int .i64 (xj : Int)))
          have hb2 := ((hoz.set p (.int .i64 (xj : Int))).setBelow (Nat.le_refl _) q (.int .i64 (xp : Int)))
          have hb3 : Below w.heap.size w _ := ((hbz.trans (hb1.mono (by omega))).trans (hb2.mono (by omega))).drew
          rw [add_row, add_row, vn_setN, vn_setN] at hs1
          rw [add_row, add_row] at hb3
          have HSW : Hid ((l.set p xj).set q xp = (l.set p (l.getD q 0)).set q (l.getD p 0)) := by unfold Hid; rw [HXP.out, HXJ.out]
          have HSL : Hid (((l.set p xj).set q xp).length = n) := by unfold Hid; simp [H.out]
          obtain ⟨L, hL⟩ : ∃ L, (l.set p xj).set q xp = L := ⟨_, rfl⟩
          rw [hL] at hs1 HSW HSL
          clear hb1 hb2 hL
          have hpq : ¬ p = q := by omega
          have hqp : ¬ q = p := by omega
          go_region
          all_goals
            generalize ((wz.setCell ⟨g, p, none⟩ (.int .i64 (xj : Int))).setCell ⟨g, q, none⟩ (.int .i64 (xp : Int))).drew = wS at *
            clear hcp hcq hfp hfq hoz hbz
            go_wp2
            go_loopw [7, 8] (fun av bv wr => ∃ t : Nat, 2 * t ≤ n - (p + 1) ∧ av = .int .i64 ((p + 1 + t : Nat) : Int) ∧ bv = .int .i64 ((n : Int) - 1 - t) ∧ Own wr w.heap.size 3 (.slice (some ⟨g, 0, none⟩) n c1) (vn .i64 (rvL L (p + 1) t)) ∧ Below w.heap.size w wr) (fun _ bv _ => (intOf bv + 1).toNat)
            case atStart => exact ⟨0, by omega, by go_num, by go_num, (by rw [rvL_zero]; exact hs1), hb3⟩
            case round =>
              clear hs1 hb3
              obtain ⟨t, ht, rfl, rfl, hown, hbel⟩ := hrel
              obtain ⟨b, hb⟩ : ∃ b : Nat, b = n - 1 - t := ⟨_, rfl⟩
              have hbi : (n : Int) - 1 - t = (b : Int) := by omega
              rw [hbi]
              obtain ⟨a, ha⟩ : ∃ a : Nat, p + 1 + t = a := ⟨_, rfl⟩
              rw [ha]
              by_cases hab : a < b
              · have HN := rvL_next L (p + 1) t (by rw [HSL.out]; omega)
                rw [ha, HSL.out, ← hb] at HN
                have ka := rvL_at L (p + 1) t a (by rw [HSL.out]; omega) (by rw [HSL.out]; omega)
                have kb := rvL_at L (p + 1) t b (by rw [HSL.out]; omega) (by rw [HSL.out]; omega)
                obtain ⟨xa, hxa⟩ : ∃ x, L.getD a 0 = x := ⟨_, rfl⟩
                obtain ⟨xb, hxb⟩ : ∃ x, L.getD b 0 = x := ⟨_, rfl⟩
                rw [hxa] at ka
                rw [hxb] at kb
                rw [hxa, hxb] at HN
                have hca : wr.cell? ⟨g, a, none⟩ = some (.int .i64 (xa : Int)) := by
                  have := hown.cell (j := a) (u := .int .i64 (xa : Int)) (by rw [List.getElem?_map, ka]; rfl)
                  rwa [add_row] at this
                have hcb : wr.cell? ⟨g, b, none⟩ = some (.int .i64 (xb : Int)) := by
                  have := hown.cell (j := b) (u := .int .i64 (xb : Int)) (by rw [List.getElem?_map, kb]; rfl)
                  rwa [add_row] at this
                have hfa : wr.frozen? ⟨g, a, none⟩ = false := by have := hown.frozenAt a; rwa [add_row] at this
                have hfb : wr.frozen? ⟨g, b, none⟩ = false := by have := hown.frozenAt b; rwa [add_row] at this
                have hs1 := ((hown.set a (.int .i64 (xb : Int))).set b (.int .i64 (xa : Int))).drew
                have hb1 := (hown.setBelow (Nat.le_refl _) a (.int .i64 (xb : Int)))
                have hb2 := ((hown.set a (.int .i64 (xb : Int))).setBelow (Nat.le_refl _) b (.int .i64 (xa : Int)))
                have hb3 : Below w.heap.size w _ := ((hbel.trans (hb1.mono (by omega))).trans (hb2.mono (by omega))).drew
                rw [add_row, add_row, vn_setN, vn_setN, HN] at hs1
                rw [add_row, add_row] at hb3
                have i1 : (a : Int) < (b : Int) := by omega
                have i2 : (b : Int) < (n : Int) := by omega
                have i3 : (a : Int) < (n : Int) := by omega
                have i4 : (0 : Int) ≤ (a : Int) := by omega
                have i5 : (0 : Int) ≤ (b : Int) := by omega
                have hab2 : ¬ a = b := by omega
                have hba2 : ¬ b = a := by omega
                have HA := Lib.hid ha
                have HB := Lib.hid hb
                clear HN ka kb hxa hxb hb1 hb2 ha hb hbi hown hbel
                go_wp2
                go_region
                all_goals
                  generalize ((wr.setCell ⟨g, a, none⟩ (.int .i64 (xb : Int))).setCell ⟨g, b, none⟩ (.int .i64 (xa : Int))).drew = wS2 at *
                  clear hca hcb hfa hfb
                  go_wp2
                  go_roundw
                  case rel => exact ⟨t + 1, by have := HA.out; have := HB.out; omega, by have := HA.out; go_num, by have := HB.out; go_num, hs1, hb3⟩
                  case measure => simp [intOf]
              · have i1 : ¬ (a : Int) < (b : Int) := by omega
                have hf := rvL_full L (p + 1) t (by rw [HSL.out]; omega) (by rw [HSL.out]; omega) (by rw [HSL.out]; omega)
                have hsw := nxL_swap l p q (by omega) (by rw [H.out]; omega)
                rw [← HSW.out] at hsw
                rw [hf, hsw] at hown
                clear hf hsw
                go_wp2
                go_ret2
                exact ⟨hbel, _, _, rfl, hown⟩
        · have hsm := hx.out.small q (by omega) (by rw [H.out]; omega)
          rw [HXP.out] at hsm
          obtain ⟨xy, hxy⟩ : ∃ x, l.getD q 0 = x := ⟨_, rfl⟩
          rw [hxy] at hsm hcq
          have s1 : (xy : Int) < (xp : Int) := by omega
          have s2 : decide ((xy : Int) < (xp : Int)) = true := by simp; omega
          obtain ⟨q', rfl⟩ : ∃ q', q = q' + 1 := ⟨q - 1, by omega⟩
          clear hsm hxy
          go_wp2
          go_quiet (fail)
          go_wp2
          go_roundw
          case rel => exact ⟨q', t + nq, by omega, by omega, by go_num, by first | rfl | rw [World.drewN_drewN]⟩
          case measure => simp [intOf]
    · have hdn := desc_at hx.out.down (p := p) (by omega) (by rw [H.out]; omega)
      obtain ⟨xq, hxq⟩ : ∃ x, l.getD (p + 1) 0 = x := ⟨_, rfl⟩
      obtain ⟨xp, hxp⟩ : ∃ x, l.getD p 0 = x := ⟨_, rfl⟩
      rw [hxq, hxp] at hdn
      rw [hxq] at hcq
      rw [hxp] at hcp
      have t1 : (xq : Int) < (xp : Int) := by omega
      have t2 : decide ((xq : Int) < (xp : Int)) = true := by simp; omega
      clear hdn hxq hxp
      go_wp2
      go_quiet (fail)
      go_wp2
      obtain ⟨p', rfl⟩ : ∃ p', p = p' + 1 := ⟨p - 1, by omega⟩
      go_roundw
      case rel => exact ⟨p', t + nq, by omega, by omega, by go_num, by first | rfl | rw [World.drewN_drewN]⟩
      case measure => simp [intOf]
end Go.Proofs.Ytmepiiheidmbgaa

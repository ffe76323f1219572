/-
  points.Fill: the first places that are there, tried at all of them.
-/
import Derived.Test.YthbmnaonnebnhaaPtsr
import Derived.StillTailTactics
import Derived.RangeFuncBox
set_option linter.unusedVariables false
namespace Go.Proofs.Ythbmnaonnebnhaa
open Go.RowKit

def wrongZ (k : Int) (n : Nat) : Int := if 9 < n then 1 else if k < 1 ∨ (n : Int) < k then 3 else 0
theorem points_wrong (k z : Int) (n : Nat) (w : World) (hn : n ≤ maxLen) (hz : Hid (wrongZ k n = z)) :
    Calls Try.prog 55 #[.int .i64 k, .int .i64 (n : Int)] w (Ret w (.int .i64 z)) := by
  by_cases h1 : 9 < n
  · have h10 : (9 : Int) < (n : Int) := by omega
    have HZ : Hid (1 = z) := by unfold Hid; rw [← hz.out]; unfold wrongZ; rw [if_pos h1]
    clear hz h1
    go_enter Try.func55, Try.ntmps55
    go_wp2
    go_ret
    exact ⟨ret_i HZ.out, rfl⟩
  · have h10 : ¬ (9 : Int) < (n : Int) := by omega
    by_cases h2 : k < 1
    · have HZ : Hid (3 = z) := by unfold Hid; rw [← hz.out]; unfold wrongZ; rw [if_neg h1, if_pos (.inl h2)]
      clear hz h1
      go_enter Try.func55, Try.ntmps55
      go_wp2
      go_ret
      exact ⟨ret_i HZ.out, rfl⟩
    · by_cases h3 : (n : Int) < k
      · have HZ : Hid (3 = z) := by unfold Hid; rw [← hz.out]; unfold wrongZ; rw [if_neg h1, if_pos (.inr h3)]
        clear hz h1
        go_enter Try.func55, Try.ntmps55
        go_wp2
        go_ret
        exact ⟨ret_i HZ.out, rfl⟩
      · have HZ : Hid (0 = z) := by unfold Hid; rw [← hz.out]; unfold wrongZ; rw [if_neg h1, if_neg (by omega)]
        clear hz h1
        go_enter Try.func55, Try.ntmps55
        go_wp2
        go_ret
        exact ⟨ret_i HZ.out, rfl⟩
def ptsAny (l : List Int) (lost : List Bool) (n : Nat) : Bool := (List.range n).any (badJ l lost)
def ptsD (k n : Nat) (l : List Int) (lost : List Bool) : List Nat := lagL (lvI l) ((presL lost n).take k) ((presL lost n).take k)
def ptsF (k n : Nat) (l : List Int) (lost : List Bool) : Int := if ptsAny l lost n then 4 else if (presL lost n).length < k then 5 else if misB l (ptsD k n l lost) (presL lost n) then 8 else 0
/-- none and a number other than 0, or a list of the call's own -/
def PtP (w : World) (z : Int) (d : List Nat) (e : Ending) (w' : World) : Prop :=
  (z ≠ 0 → e = .returned (.tuple #[.slice none 0 0, .int .i64 z]) ∧ Below w.heap.size w w') ∧
  (z = 0 → ∃ A n c, e = .returned (.tuple #[.slice A n c, .int .i64 0]) ∧ Own w' w.heap.size 3 (.slice A n c) (vn .i64 d) ∧ Below w.heap.size w w')
theorem PtP.bad {w w' : World} {z z' : Int} {d : List Nat} (h : z' = z) (h0 : z ≠ 0) (hb : Below w.heap.size w w') : PtP w z' d (.returned (.tuple #[.slice none 0 0, .int .i64 z])) w' := by
  subst h; exact ⟨fun _ => ⟨rfl, hb⟩, fun h => absurd h h0⟩
theorem ptsAny_hit {l : List Int} {lost : List Bool} {n q : Nat} (hq : q < n) (h : badJ l lost q = true) : ptsAny l lost n = true := by
  unfold ptsAny; rw [List.any_eq_true]; exact ⟨q, List.mem_range.2 hq, h⟩
theorem ptsAny_no {l : List Int} {lost : List Bool} {n : Nat} (h : ∀ j, j < n → badJ l lost j = false) : ptsAny l lost n = false := by
  unfold ptsAny; rw [List.any_eq_false]; intro j hj; rw [h j (List.mem_range.1 hj)]; simp
theorem Own.capLeP {w : World} {base n c : Nat} {E : TypeId} {A : Option Addr} {xs : List Value} (h : Own w base E (.slice A n c) xs) : n ≤ c := by
  have hl := h.len
  rcases h.2 with ⟨e, h0⟩ | ⟨g, cap, cur, e, hb, hh, hnc, hc2, hs, ht⟩
  · injection e with e1 e2 e3; omega
  · injection e with e1 e2 e3; omega
theorem points_Fill_wrong (k z : Int) (A A' : Option Addr) (n c n' c' : Nat) (l : List Int) (w : World) (h : Reads w w.heap.size A n (vi .i64 l)) (hn : n ≤ maxLen) (hn' : n' ≤ maxLen) (hz : Hid ((if wrongZ k n != 0 then wrongZ k n else if n' ≠ n then 3 else 0) = z)) (h0 : z ≠ 0) :
    Calls Try.prog 33 #[.int .i64 k, .slice A n c, .slice A' n' c'] w (PtP w z []) := by
  have cw := fun W => points_wrong k (wrongZ k n) n W hn rfl
  have hb0 : Below w.heap.size w (w.alloc (.cells #[.slice A n c] 26)) := (Below.refl _ w).alloc (Nat.le_refl _) _
  generalize wrongZ k n = y at *
  clear h
  by_cases hy : y = 0
  · subst hy
    have hz := hz.out
    rw [if_neg (by simp)] at hz
    by_cases hne : n' = n
    · rw [if_neg (by simpa using hne)] at hz; exact absurd hz.symm h0
    · rw [if_pos hne] at hz
      have b1 : ((n' : Int) != (n : Int)) = true := by simp; omega
      subst hz
      clear hne
      go_enter Try.func33, Try.ntmps33
      go_wp2_with (go_at_call 55; refine (cw _).mono ?_; rintro e w1 ⟨rfl, rfl⟩)
      go_ret2
      exact PtP.bad rfl (by decide) hb0
  · have b1 : (y != 0) = true := by simpa using hy
    have hz := hz.out
    rw [if_pos b1] at hz
    subst hz
    go_enter Try.func33, Try.ntmps33
    go_wp2_with (go_at_call 55; refine (cw _).mono ?_; rintro e w1 ⟨rfl, rfl⟩)
    go_ret2
    exact PtP.bad rfl hy hb0
theorem points_mis (p1 p2 : Addr) (A A7 A9 : Option Addr) (n c c7 c9 : Nat) (P d : List Nat) (l : List Int) (w : World) {B B' : Nat} (hc1 : w.cell? p1 = some (.slice A7 n c7)) (hc2 : w.cell? p2 = some (.slice A n c)) (h7 : Reads w B A7 n (vn .i64 (ptL d n))) (h : Reads w B' A n (vi .i64 l)) (h9 : Reads w w.heap.size A9 P.length (vn .i64 P)) (hP : ∀ j ∈ P, j < n) (hn : n ≤ 9) (hp9 : P.length ≤ 9) :
    Calls Try.prog 57 #[.slice A9 P.length c9, .func (.func 58) #[] #[.pointer (some p1), .pointer (some p2)]] w (RetQ w (.bool (misB l d P))) := by
  refine contains_pts p1 p2 A9 P.length c9 (vn .i64 P) (fun t => ((horn (P.getD t 0 + 1) d : Nat) : Int) != l.getD (P.getD t 0) 0) (misB l d P) w h9 ?_ ?_ ?_
  · unfold maxLen; omega
  · intro t u m hu
    rw [List.getElem?_map] at hu
    obtain ⟨j, hj, rfl⟩ := Option.map_eq_some_iff.1 hu
    have hjn := hP j (mem_at hj)
    have hjD : P.getD t 0 = j := by rw [List.getD_eq_getElem?_getD, hj]; rfl
    refine points_Fill1 p1 p2 A A7 n c c7 j (ptL d n) l _ (w.drewN m) hc1 hc2 (h7.drewN m) (h.drewN m) hjn hn ?_
    unfold Hid
    simp only [hjD]
    rw [List.getD_eq_getElem?_getD, ptL_at d hjn]; rfl
  · exact anyTo_list P (fun j => ((horn (j + 1) d : Nat) : Int) != l.getD j 0) _ (fun t x ht => by rw [List.getD_eq_getElem?_getD, ht]; rfl)
set_option maxRecDepth 100000 in
set_option maxHeartbeats 4000000 in
theorem points_Fill (k : Nat) (A A' : Option Addr) (n c c' : Nat) (l : List Int) (lost : List Bool) (w : World) (h : Reads w w.heap.size A n (vi .i64 l)) (hlo : Reads w w.heap.size A' n (vb lost)) (hn : n ≤ 9) (hk1 : 1 ≤ k) (hkn : k ≤ n) :
    Calls Try.prog 33 #[.int .i64 (k : Int), .slice A n c, .slice A' n c'] w (PtP w (ptsF k n l lost) (ptsD k n l lost)) := by
  have cw := fun W => points_wrong (k : Int) 0 n W (by unfold maxLen; omega) (by unfold Hid wrongZ; rw [if_neg (by omega), if_neg (by omega)])
  have bX := Boxed.new w 26 (.slice A n c)
  have hbox0 := bX.cell
  have hfr0 := bX.frozen
  have hb0 : Below w.heap.size w (w.alloc (.cells #[.slice A n c] 26)) := (Below.refl _ w).alloc (Nat.le_refl _) _
  have hsz0 : (w.alloc (.cells #[.slice A n c] 26)).heap.size = w.heap.size + 1 := by simp
  clear bX
  go_enter Try.func33, Try.ntmps33
  go_wp2_with (go_at_call 55; refine (cw _).mono ?_; rintro e w1 ⟨rfl, rfl⟩)
  have hr0 := h.below hb0
  have hlo0 := hlo.below hb0
  clear cw
  generalize hwb : w.alloc (.cells #[.slice A n c] 26) = wb at *
  go_loopw [9, 29] (fun v9 v29 wr => ∃ q : Nat, q ≤ n ∧ v29 = .int .i64 q ∧ Own wr (w.heap.size + 1) 3 v9 (vn .i64 (presL lost q)) ∧ Below (w.heap.size + 1) wb wr ∧ Hid (∀ j, j < q → badJ l lost j = false)) (fun _ i _ => n - (intOf i).toNat)
  case atStart => exact ⟨0, by omega, rfl, Own.nil _ _ _, Below.refl _ _, fun j hj => absurd hj (by omega)⟩
  case round =>
    obtain ⟨q, hq, rfl, hown, hbel, hgood⟩ := hrel
    obtain ⟨wo, rfl⟩ : ∃ x, x = wr := ⟨_, rfl⟩
    have hbw := hb0.trans (hbel.mono (Nat.le_succ _))
    have hso := hbel.size
    have hbox : wo.cell? ⟨w.heap.size, 0, none⟩ = some (.slice A n c) := (hbel.cell (by show w.heap.size < _; omega)).trans hbox0
    have hro := hr0.below (hbel.mono (Nat.le_succ _))
    have hloo := hlo0.below (hbel.mono (Nat.le_succ _))
    have hPle := presL_le lost q
    have HOWN := Lib.hid hown
    clear hbox0 hfr0
    by_cases hlt : q < n
    · have i1 : (q : Int) < (n : Int) := by omega
      obtain ⟨ad, z, e, _, hz, hcz⟩ := hro.int_at (k := q) hlt
      subst e
      obtain ⟨ad', b, e, _, hb, hcb⟩ := hloo.bool_at (k := q) hlt
      subst e
      have hzD : l.getD q 0 = z := by rw [List.getD_eq_getElem?_getD, hz]; rfl
      have hbD : lost.getD q false = b := by rw [List.getD_eq_getElem?_getD, hb]; rfl
      have hJ : badJ l lost q = (!b && badF z) := by unfold badJ; rw [hzD, hbD]
      have HJ := Lib.hid hJ
      have HB := Lib.hid hb
      have HRO := Lib.hid hro
      have HLOO := Lib.hid hloo
      clear hz hb hzD hbD hJ hro hloo hr0 hlo0 h hlo hown
      cases b
      · have cc := field_Check1 z (fldErr [z]) wo rfl
        have HN := Lib.hid (presL_next HB.out)
        have hl1 : (presL lost q).length + 1 ≤ 10 := by omega
        cases hbf : badF z
        · have hf0 : fldErr [z] = 0 := by unfold fldErr; simp [hbf]
          rw [hf0] at cc
          have HG : Hid (∀ j, j < q + 1 → badJ l lost j = false) := fun j hj => by
            rcases Nat.lt_or_ge j q with h2 | h2
            · exact hgood.out j h2
            · obtain rfl : j = q := by omega
              rw [HJ.out, hbf]; rfl
          have hvs : vn .i64 (presL lost q) ++ [Value.int .i64 (q : Int)] = vn .i64 (presL lost (q + 1)) := by rw [HN.out]; simp [vn]
          have HVS := Lib.hid hvs
          have hlv : (vn .i64 (presL lost q)).length + 1 ≤ 10 := by simpa [vn] using hl1
          clear hbf hf0 hvs hPle
          go_wp2_with (first | (go_at_call 40; refine cc.mono ?_; clear cc; rintro e w4 ⟨rfl, m4, hw4⟩; have ho4 := (HOWN.out.alloc (.cells #[.int .i64 z] 3)).drewN m4; rw [← hw4] at ho4; have hB4 : Below (w.heap.size + 1) wo w4 := (by rw [hw4]; exact below_drewN ((Below.refl _ wo).alloc (by omega) _) m4); have hs4 := hB4.size; clear hw4) | (at_builtin; refine app1 el_intP rfl _ _ rfl rfl ho4 _ _ rfl rfl (by unfold maxLen; omega) (by omega) (by omega) ?_; intro v6 w5 ho6 hb6 hg6 hat6))
          rw [HVS.out] at ho6
          have hB6 : Below (w.heap.size + 1) wo w5 := hB4.trans hb6
          have hB7 := hbel.trans hB6
          go_roundw
          case rel => exact ⟨q + 1, by omega, by go_num, ho6, hB7, HG⟩
          case measure => simp [intOf]; omega
        · have hf4 : fldErr [z] = 4 := by unfold fldErr; simp [hbf]
          rw [hf4] at cc
          have HA : Hid (ptsF k n l lost = 4) := by
            unfold Hid ptsF
            rw [ptsAny_hit hlt (by rw [HJ.out, hbf]; rfl), if_pos rfl]
          have hBw : Below w.heap.size w (wo.alloc (.cells #[.int .i64 z] 3)) := hbw.alloc (by omega) _
          clear hbf hf4 hPle
          go_wp2_with (go_at_call 40; refine cc.mono ?_; clear cc; rintro e w4 ⟨rfl, m4, rfl⟩)
          go_ret2
          exact PtP.bad HA.out (by decide) (below_drewN hBw m4)
      · have HN := Lib.hid (presL_next_lost HB.out)
        have HG : Hid (∀ j, j < q + 1 → badJ l lost j = false) := fun j hj => by
          rcases Nat.lt_or_ge j q with h2 | h2
          · exact hgood.out j h2
          · obtain rfl : j = q := by omega
            rw [HJ.out]; rfl
        go_wp2
        go_roundw
        case rel => exact ⟨q + 1, by omega, by go_num, by rw [HN.out]; exact HOWN.out, hbel, HG⟩
        case measure => simp [intOf]; omega
    · obtain rfl : n = q := by omega
      have i1 : ¬ (n : Int) < (n : Int) := by omega
      have hany := ptsAny_no hgood.out
      obtain ⟨A9, c9, e9⟩ := hown.form
      have hvl : (vn .i64 (presL lost n)).length = (presL lost n).length := by simp [vn]
      rw [hvl] at e9
      subst e9
      have hok : okPs (presL lost n) := fun j hj => by have := (presL_mem.1 hj).1; omega
      have hnd := presL_nodup lost n
      have hP : ∀ j ∈ presL lost n, j < n := fun j hj => (presL_mem.1 hj).1
      have hl16 : ∀ j ∈ presL lost n, 0 ≤ l.getD j 0 ∧ l.getD j 0 < 16 := fun j hj => by
        obtain ⟨h1, h2⟩ := presL_mem.1 hj
        have h3 := hgood.out j h1
        unfold badJ at h3
        rw [h2] at h3
        have h4 := badF_ok (z := l.getD j 0) (by simpa using h3)
        omega
      have hF : ptsF k n l lost = if (presL lost n).length < k then 5 else if misB l (ptsD k n l lost) (presL lost n) then 8 else 0 := by unfold ptsF; rw [hany]; rfl
      clear hvl hany hgood
      by_cases hpk : (presL lost n).length < k
      · have HF : Hid (ptsF k n l lost = 5) := by unfold Hid; rw [hF, if_pos hpk]
        have j1 : ((presL lost n).length : Int) < (k : Int) := by omega
        generalize (presL lost n).length = p at *
        clear hF
        go_wp2
        go_ret2
        exact PtP.bad HF.out (by decide) hbw
      · rw [if_neg hpk] at hF
        have j1 : ¬ ((presL lost n).length : Int) < (k : Int) := by omega
        have hcap := hown.capLeP
        have hR : Reads wo wo.heap.size A9 k (vn .i64 ((presL lost n).take k)) := by
          have := hown.reads.take (k := k) (by omega)
          rwa [← List.map_take] at this
        have hk0 : ((presL lost n).take k).length = k := by rw [List.length_take]; omega
        have hlagp := lag_eval (lv := lvI l) (all := (presL lost n).take k) (fun j hj => hok j (List.mem_of_mem_take hj)) (fun j hj => by have := hl16 j (List.mem_of_mem_take hj); unfold lvI; omega) (hnd.sublist (List.take_sublist _ _))
        obtain ⟨hd16, hdl, _⟩ := hlagp
        rw [hk0] at hdl
        have cT := points_through A A9 n k c c9 l ((presL lost n).take k) wo.drew (hro.more hbw.size).drew hR.drew hn (by omega) (fun j hj => hP j (List.mem_of_mem_take hj)) (hnd.sublist (List.take_sublist _ _)) (fun j hj => hl16 j (List.mem_of_mem_take hj))
        have hE : lagL (lvI l) ((presL lost n).take k) ((presL lost n).take k) = ptsD k n l lost := rfl
        rw [hE] at cT hd16 hdl
        clear hE hk0 hR
        have hcapI : (k : Int) ≤ (c9 : Int) := by omega
        have HP := Lib.hid hP
        have HRO := Lib.hid hro
        have HL16 := Lib.hid hl16
        have HF := Lib.hid hF
        generalize hD : ptsD k n l lost = d at *
        generalize hPP : presL lost n = P at *
        have HD16 := Lib.hid hd16
        have HDL := Lib.hid hdl
        clear hF hd16 hdl hP hl16 hok hnd hPP hD hro hloo hown
        generalize hp : P.length = p at *
        have hp9 : p ≤ 9 := Nat.le_trans hPle hn
        have k0 : (0 : Int) ≤ (k : Int) := by omega
        have hBX : w.heap.size < wo.heap.size := by omega
        have HOWN := HOWN
        cases hm : misB l d P
        all_goals
          have HM := Lib.hid hm
          rw [hm] at HF
          clear hm
          go_wp2
          go_still_tail 4, (by kernel_rfl)
          go_wp2_with (first
            | (go_at_call 56; refine cT.mono ?_; clear cT; rintro e w6 ⟨A6, n6, c6, rfl, ho6, hb6⟩; obtain rfl : k = n6 := (by have := ho6.reads.nat_len; rw [HDL.out] at this; exact this); have hb6' : Below wo.heap.size wo w6 := ((Below.refl wo.heap.size wo).drew).trans hb6; have hbox6 : w6.cell? ⟨w.heap.size, 0, none⟩ = some (.slice A n c) := (hb6'.cell hBX).trans hbox; have hs6 := hb6'.size; have cq := points_put n A6 k c6 d w6 hn ho6.reads (by omega) HD16.out)
            | (go_at_call 50; refine cq.mono ?_; clear cq; rintro e w7 ⟨A7, n7, c7, rfl, ho7, hb7⟩; obtain rfl : n = n7 := (by have := ho7.len; rw [ptL_len] at this; exact this); have hs7 := hb7.size; have hB7 := (hb6'.trans (hb7.mono hs6)); have hbox7 : w7.cell? ⟨w.heap.size, 0, none⟩ = some (.slice A n c) := (hB7.cell hBX).trans hbox; have cc := points_mis ⟨w7.heap.size, 0, none⟩ ⟨w.heap.size, 0, none⟩ A A7 A9 n c c7 c9 P d l (w7.alloc (.cells #[.slice A7 n c7] 26)) (Boxed.new w7 _ _).cell (((Below.refl w7.heap.size w7).alloc (Nat.le_refl _) _).cell (show w.heap.size < w7.heap.size by omega) |>.trans hbox7) (ho7.reads.alloc (Nat.le_refl _) _) ((HRO.out.below ((hB7.mono hbw.size).alloc (by omega) _))) (by rw [hp]; exact ((HOWN.out.below hB7 (Nat.le_refl _)).alloc _).reads) HP.out hn (by omega))
            | (go_at_call 57; rw [hp, HM.out] at cc; refine cc.mono ?_; clear cc; rintro e w9 ⟨rfl, m9, rfl⟩))
          go_ret2
          have hBe : Below w.heap.size w ((w7.alloc (.cells #[.slice A7 n c7] 26)).drewN m9) := below_drewN ((hbw.trans (hB7.mono hbw.size)).alloc (by omega) _) m9
          first
            | exact PtP.bad HF.out (by decide) hBe
            | exact ⟨fun h => absurd HF.out h, fun _ => ⟨A6, k, c6, rfl, ((((Own.low ho6 (show w.heap.size ≤ wo.heap.size from hbw.size)).below hb7 (Nat.le_refl _)).alloc _).drewN m9), hBe⟩⟩
end Go.Proofs.Ythbmnaonnebnhaa

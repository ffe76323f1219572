/-
  The law: the first places that are there, the last places that are there: one answer.
-/
import Derived.Test.YthbmnaonnebnhaaPtsq
import Derived.Test.YthbmnaonnebnhaaInts
set_option linter.unusedVariables false
namespace Go.Proofs.Ythbmnaonnebnhaa
open Go.RowKit

theorem ref_PointsCheck (k z : Int) (A : Option Addr) (n c : Nat) (w : World) (hn : n ≤ maxLen) (hz : Hid (wrongZ k n = z)) :
    Calls Try.prog 34 #[.int .i64 k, .slice A n c] w (Ret w (.int .i64 z)) := by
  by_cases h1 : 9 < n
  · have h10 : (9 : Int) < (n : Int) := by omega
    have HZ : Hid (1 = z) := by unfold Hid; rw [← hz.out]; unfold wrongZ; rw [if_pos h1]
    clear hz h1
    go_enter Try.func34, Try.ntmps34
    go_wp2
    go_ret
    exact ⟨ret_i HZ.out, rfl⟩
  · have h10 : ¬ (9 : Int) < (n : Int) := by omega
    by_cases h2 : k < 1
    · have HZ : Hid (3 = z) := by unfold Hid; rw [← hz.out]; unfold wrongZ; rw [if_neg h1, if_pos (.inl h2)]
      clear hz h1
      go_enter Try.func34, Try.ntmps34
      go_wp2
      go_ret
      exact ⟨ret_i HZ.out, rfl⟩
    · by_cases h3 : (n : Int) < k
      · have HZ : Hid (3 = z) := by unfold Hid; rw [← hz.out]; unfold wrongZ; rw [if_neg h1, if_pos (.inr h3)]
        clear hz h1
        go_enter Try.func34, Try.ntmps34
        go_wp2
        go_ret
        exact ⟨ret_i HZ.out, rfl⟩
      · have HZ : Hid (0 = z) := by unfold Hid; rw [← hz.out]; unfold wrongZ; rw [if_neg h1, if_neg (by omega)]
        clear hz h1
        go_enter Try.func34, Try.ntmps34
        go_wp2
        go_ret
        exact ⟨ret_i HZ.out, rfl⟩
/-- a list of the call's own, and a number -/
def PtU (w : World) (z : Int) (d : List Nat) (e : Ending) (w' : World) : Prop :=
  ∃ A n c, e = .returned (.tuple #[.slice A n c, .int .i64 z]) ∧ Own w' w.heap.size 3 (.slice A n c) (vn .i64 d) ∧ Below w.heap.size w w'
theorem PtP.one {w w' : World} {z : Int} {d : List Nat} {e : Ending} (h : PtP w z d e w') : PtU w z (if z = 0 then d else []) e w' := by
  by_cases h0 : z = 0
  · obtain ⟨A, n, c, h1, h2, h3⟩ := h.2 h0
    rw [if_pos h0]
    subst h0
    exact ⟨A, n, c, h1, h2, h3⟩
  · obtain ⟨h1, h2⟩ := h.1 h0
    rw [if_neg h0]
    exact ⟨none, 0, 0, h1, Own.nil _ _ _, h2⟩
theorem Own.capMaxP {w : World} {base n c : Nat} {E : TypeId} {A : Option Addr} {xs : List Value} (h : Own w base E (.slice A n c) xs) : n ≤ maxLen := by
  have h1 := h.capLeP
  rcases h.2 with ⟨e, h0⟩ | ⟨g, cap, cur, e, hb, hh, hnc, hc2, hs, ht⟩
  · injection e with e1 e2 e3; unfold maxLen; omega
  · injection e with e1 e2 e3; omega
theorem ints_same (A1 A2 : Option Addr) (n1 n2 c1 c2 : Nat) (d : List Nat) (w : World) {B B' : Nat} (h1 : Reads w B A1 n1 (vn .i64 d)) (h2 : Reads w B' A2 n2 (vn .i64 d)) (hn : n1 ≤ maxLen) :
    Calls Try.prog 29 #[.slice A1 n1 c1, .slice A2 n2 c2] w (RetQ w (.bool true)) :=
  ref_Ints A1 A2 n1 n2 c1 c2 (d.map (fun x : Nat => (x : Int))) (d.map (fun x : Nat => (x : Int))) true w (by rw [vi_vnP]; exact h1) (by rw [vi_vnP]; exact h2) hn (by simp [Hid])
theorem PointsFills_wrong (k z y : Int) (A A' : Option Addr) (n c n' c' : Nat) (l : List Int) (w : World) (h : Reads w w.heap.size A n (vi .i64 l)) (hn : n ≤ maxLen) (hn' : n' ≤ maxLen) (hz : Hid ((if wrongZ k n != 0 then wrongZ k n else if n' ≠ n then 3 else 0) = z)) (hy : Hid (wrongZ k n = y)) (h0 : z ≠ 0) :
    Calls Try.prog 11 #[.int .i64 k, .slice A n c, .slice A' n' c'] w (LawTrue w) := by
  have cF := (points_Fill_wrong k z A A' n c n' c' l w h hn hn' hz h0).mono fun _ _ h => h.one
  rw [if_neg h0] at cF
  have cC := fun W => ref_PointsCheck k y A n c W hn hy
  have hz := hz.out
  rw [hy.out] at hz
  clear h hy
  have b0 : (z == 0) = false := by simpa using h0
  by_cases hy0 : y = 0
  · subst hy0
    rw [if_neg (by simp)] at hz
    have hne : n' ≠ n := by intro e; rw [if_neg (by simpa using e)] at hz; exact h0 hz.symm
    rw [if_pos hne] at hz
    subst hz
    have b1 : ((n' : Int) != (n : Int)) = true := by simp; omega
    clear hne
    by_cases hpos : (0 : Int) < (n : Int)
    all_goals
      go_enter Try.func11, Try.ntmps11
      go_wp2_with (first | (go_at_call 33; refine cF.mono ?_; clear cF; rintro e w1 ⟨A1, n1, c1, rfl, ho1, hb1⟩; obtain rfl : 0 = n1 := ho1.len; have cI := ints_same A1 none 0 0 c1 0 [] w1 ho1.reads (Own.nil w1 w1.heap.size 3).reads (by omega)) | (go_at_call 34; refine (cC _).mono ?_; rintro e w2 ⟨rfl, rfl⟩))
      go_loopw [9, 10] (fun v9 v10 wr => v9 = .int .i64 3 ∧ v10 = .int .i64 0 ∧ wr = w1) (fun _ _ _ => 0)
      case atStart => exact ⟨rfl, rfl, rfl⟩
      case round =>
        obtain ⟨rfl, rfl, rfl⟩ := hrel
        go_wp2_with (go_at_call 29; refine cI.mono ?_; clear cI; rintro e w3 ⟨rfl, m3, rfl⟩)
        go_ret
        exact ⟨rfl, below_drewN hb1 m3⟩
  · have b1 : (y != 0) = true := by simpa using hy0
    rw [if_pos b1] at hz
    subst hz
    by_cases hpos : (0 : Int) < (n : Int)
    all_goals
      go_enter Try.func11, Try.ntmps11
      go_wp2_with (first | (go_at_call 33; refine cF.mono ?_; clear cF; rintro e w1 ⟨A1, n1, c1, rfl, ho1, hb1⟩; obtain rfl : 0 = n1 := ho1.len; have cI := ints_same A1 none 0 0 c1 0 [] w1 ho1.reads (Own.nil w1 w1.heap.size 3).reads (by omega)) | (go_at_call 34; refine (cC _).mono ?_; rintro e w2 ⟨rfl, rfl⟩))
      go_loopw [9, 10] (fun v9 v10 wr => v9 = .int .i64 y ∧ v10 = .int .i64 0 ∧ wr = w1) (fun _ _ _ => 0)
      case atStart => exact ⟨rfl, rfl, rfl⟩
      case round =>
        obtain ⟨rfl, rfl, rfl⟩ := hrel
        go_wp2_with (go_at_call 29; refine cI.mono ?_; clear cI; rintro e w3 ⟨rfl, m3, rfl⟩)
        go_ret
        exact ⟨rfl, below_drewN hb1 m3⟩
set_option maxRecDepth 100000 in
set_option maxHeartbeats 4000000 in
theorem PointsFills_good (k : Nat) (A A' : Option Addr) (n c c' : Nat) (l : List Int) (lost : List Bool) (w : World) (h : Reads w w.heap.size A n (vi .i64 l)) (hlo : Reads w w.heap.size A' n (vb lost)) (hn : n ≤ 9) (hk1 : 1 ≤ k) (hkn : k ≤ n) :
    Calls Try.prog 11 #[.int .i64 (k : Int), .slice A n c, .slice A' n c'] w (LawTrue w) := by
  have cF := (points_Fill k A A' n c c' l lost w h hlo hn hk1 hkn).mono fun _ _ h => h.one
  have cC := fun W => ref_PointsCheck (k : Int) 0 A n c W (by unfold maxLen; omega) (by unfold Hid wrongZ; rw [if_neg (by omega), if_neg (by omega)])
  have cR := fun (hany : ptsAny l lost n = false) (w1 : World) (hb : Below w.heap.size w w1) => (ref_Filled k A A' n c c' l lost w1 ((h.below hb).more hb.size) ((hlo.below hb).more hb.size) hn hk1 hkn hany).mono fun _ _ h => h.one
  have HF : Hid (ptsAny l lost n = true → ptsF k n l lost = 4) := fun ha => by unfold ptsF; rw [ha, if_pos rfl]
  generalize ptsF k n l lost = z at *
  have HH := Lib.hid h
  have HLO := Lib.hid hlo
  have HCR := Lib.hid cR
  clear cR h hlo
  have hd : (z = 4 → (if z = 0 then ptsD k n l lost else []) = []) := fun h4 => by rw [if_neg (by omega)]
  generalize (if z = 0 then ptsD k n l lost else []) = d at *
  have HD := Lib.hid hd
  clear hd
  go_enter Try.func11, Try.ntmps11
  go_wp2_with (first | (go_at_call 33; refine cF.mono ?_; clear cF; rintro e w1 ⟨A1, n1, c1, rfl, ho1, hb1⟩) | (go_at_call 34; refine (cC _).mono ?_; rintro e w2 ⟨rfl, rfl⟩))
  go_loopw [9, 10] (fun v9 v10 wr => ∃ q : Nat, q ≤ n ∧ v10 = .int .i64 q ∧ wr = w1 ∧ ((v9 = .int .i64 0 ∧ Hid (∀ j, j < q → badJ l lost j = false)) ∨ (v9 = .int .i64 4 ∧ Hid (ptsAny l lost n = true)))) (fun _ v10 _ => n - (intOf v10).toNat)
  case atStart => exact ⟨0, by omega, rfl, rfl, .inl ⟨rfl, fun j hj => absurd hj (by omega)⟩⟩
  case round =>
    obtain ⟨q, hq, rfl, hwr, hcase⟩ := hrel
    obtain rfl : w1 = wr := hwr.symm
    clear cC
    rcases hcase with ⟨rfl, hgood⟩ | ⟨rfl, hany⟩
    · by_cases hlt : q < n
      · have i1 : (q : Int) < (n : Int) := by omega
        obtain ⟨ad, z0, e, _, hz, hcz⟩ := (HH.out.below hb1).int_at (k := q) hlt
        subst e
        obtain ⟨ad', b, e, _, hb, hcb⟩ := (HLO.out.below hb1).bool_at (k := q) hlt
        subst e
        have hzD : l.getD q 0 = z0 := by rw [List.getD_eq_getElem?_getD, hz]; rfl
        have hbD : lost.getD q false = b := by rw [List.getD_eq_getElem?_getD, hb]; rfl
        have HJ : Hid (badJ l lost q = (!b && badF z0)) := by unfold Hid badJ; rw [hzD, hbD]
        clear hz hb hzD hbD
        have HG : Hid ((!b && badF z0) = false → ∀ j, j < q + 1 → badJ l lost j = false) := fun h1 j hj => by
          rcases Nat.lt_or_ge j q with h2 | h2
          · exact hgood.out j h2
          · obtain rfl : j = q := by omega
            rw [HJ.out]; exact h1
        have HB : Hid ((!b && badF z0) = true → ptsAny l lost n = true) := fun h1 => ptsAny_hit hlt (by rw [HJ.out]; exact h1)
        clear HJ hgood
        cases b
        · by_cases hz1 : z0 < 0
          · have HB2 := Lib.hid (HB.out (by rw [badF_lo hz1]; rfl))
            go_wp2
            go_roundw
            case rel => exact ⟨q + 1, by omega, by go_num, by trivial, .inr ⟨rfl, HB2⟩⟩
            case measure => simp [intOf] <;> omega
          · by_cases hz2 : 15 < z0
            · have HB2 := Lib.hid (HB.out (by rw [badF_hi hz2]; rfl))
              go_wp2
              go_roundw
              case rel => exact ⟨q + 1, by omega, by go_num, by trivial, .inr ⟨rfl, HB2⟩⟩
              case measure => simp [intOf] <;> omega
            · have HG2 := Lib.hid (HG.out (by rw [badF_in (by omega) (by omega)]; rfl))
              go_wp2
              go_roundw
              case rel => exact ⟨q + 1, by omega, by go_num, by trivial, .inl ⟨rfl, HG2⟩⟩
              case measure => simp [intOf] <;> omega
        · have HG2 := Lib.hid (HG.out rfl)
          go_wp2
          go_roundw
          case rel => exact ⟨q + 1, by omega, by go_num, by trivial, .inl ⟨rfl, HG2⟩⟩
          case measure => simp [intOf] <;> omega
      · obtain rfl : n = q := by omega
        have i1 : ¬ (n : Int) < (n : Int) := by omega
        have cR := HCR.out (ptsAny_no hgood.out) w1 hb1
        have cI := fun (A2 : Option Addr) (n2 c2 : Nat) (w2 : World) (hb2 : Below w1.heap.size w1 w2) (ho2 : Own w2 w1.heap.size 3 (.slice A2 n2 c2) (vn .i64 d)) => ints_same A1 A2 n1 n2 c1 c2 d w2 (ho1.below hb2 (Nat.le_refl _)).reads ho2.reads ho1.capMaxP
        clear hgood
        go_wp2_with (first
          | (go_at_call 35; refine cR.mono ?_; clear cR; rintro e w2 ⟨A2, n2, c2, rfl, ho2, hb2⟩; have cI := cI A2 n2 c2 w2 hb2 ho2)
          | (go_at_call 29; refine cI.mono ?_; clear cI; rintro e w3 ⟨rfl, m3, rfl⟩))
        go_ret
        exact ⟨rfl, below_drewN (hb1.trans (hb2.mono hb1.size)) m3⟩
    · have h4 := HF.out hany.out
      subst h4
      have h5 := HD.out rfl
      subst h5
      obtain rfl : 0 = n1 := ho1.len
      have cI := ints_same A1 none 0 0 c1 0 [] w1 ho1.reads (Own.nil w1 w1.heap.size 3).reads (by omega)
      by_cases hlt : (q : Int) < (n : Int)
      all_goals
        go_wp2_with (go_at_call 29; refine cI.mono ?_; clear cI; rintro e w3 ⟨rfl, m3, rfl⟩)
        go_ret
        exact ⟨rfl, below_drewN hb1 m3⟩
theorem PointsFills_walk (k : Int) (A : Option Addr) (n c : Nat) (l : List Int) (A' : Option Addr) (n' c' : Nat) (lost : List Bool) (w : World) (_ : (Lit.int .i64 k).wf = true) (h : Reads w w.heap.size A n (vi .i64 l)) (_ : ∀ z ∈ l, (Lit.int .i64 z).wf = true) (hm : n * 8 ≤ reachBytes) (h' : Reads w w.heap.size A' n' (vb lost)) (hm' : n' * 1 ≤ reachBytes) :
    Calls Try.prog 11 #[.int .i64 k, .slice A n c, .slice A' n' c'] w (LawTrue w) := by
  have hn : n ≤ maxLen := by have := reachBytes_lt; unfold maxLen; omega
  have hn' : n' ≤ maxLen := by have := reachBytes_lt; unfold maxLen; omega
  by_cases h0 : (if wrongZ k n != 0 then wrongZ k n else if n' ≠ n then 3 else 0) = (0 : Int)
  · have hw : wrongZ k n = 0 := by
      rcases hb : (wrongZ k n != 0) with _ | _
      · simpa using hb
      · rw [hb, if_pos rfl] at h0; exact h0
    rw [hw, if_neg (by simp)] at h0
    have hnn : n' = n := by
      rcases Nat.decEq n' n with h1 | h1
      · rw [if_pos h1] at h0; omega
      · exact h1
    subst hnn
    unfold wrongZ at hw
    by_cases h1 : 9 < n'
    · rw [if_pos h1] at hw; omega
    · rw [if_neg h1] at hw
      by_cases h2 : k < 1 ∨ (n' : Int) < k
      · rw [if_pos h2] at hw; omega
      · obtain ⟨m, rfl⟩ : ∃ m : Nat, k = m := ⟨k.toNat, by omega⟩
        exact PointsFills_good m A A' n' c c' l lost w h h' (by omega) (by omega) (by omega)
  · exact PointsFills_wrong k _ _ A A' n c n' c' l w h hn hn' rfl rfl h0
end Go.Proofs.Ythbmnaonnebnhaa

/-
  bose.Fix.
-/
import Derived.Test.YthbmnaonnebnhaaBosef
set_option linter.unusedVariables false
namespace Go.Proofs.Ythbmnaonnebnhaa
open Go.RowKit

theorem trn_at {i j k : Nat} (hk : k < 15) : (trn i j)[k]? = some (decide (j = k) || decide (i = k)) := by
  unfold trn
  rw [List.getElem?_set]
  by_cases e2 : j = k
  · rw [if_pos e2, if_pos (by simp; omega)]; simp [e2]
  · rw [if_neg e2, List.getElem?_set]
    by_cases e1 : i = k
    · rw [if_pos e1, if_pos (by simp; omega)]; simp [e1]
    · rw [if_neg e1, List.getElem?_replicate, if_pos hk]; simp [e1, e2]
theorem xor_at {a b : List Bool} {k : Nat} {x y : Bool} (hx : a[k]? = some x) (hy : b[k]? = some y) : (xorL a b)[k]? = some (x != y) := by
  unfold xorL; rw [List.getElem?_zipWith, hx, hy]
theorem xor_trn {l : List Bool} {i j : Nat} {x y : Bool} (h : l.length = 15) (hi : l[i]? = some x) (hj : l[j]? = some y) (hij : i ≤ j) : xorL l (trn i j) = if i < j then (l.set i (!x)).set j (!y) else l.set i (!x) := by
  have hi2 := (List.getElem?_eq_some_iff.1 hi).1
  have hj2 := (List.getElem?_eq_some_iff.1 hj).1
  apply List.ext_getElem?
  intro k
  rcases Nat.lt_or_ge k 15 with hk | hk
  · obtain ⟨z, hz⟩ : ∃ z, l[k]? = some z := ⟨_, List.getElem?_eq_getElem (by omega)⟩
    rw [xor_at hz (trn_at hk)]
    by_cases e2 : j = k
    · subst e2
      obtain rfl : z = y := by rw [hz] at hj; injection hj
      by_cases e1 : i = j
      · subst e1
        obtain rfl : z = x := by rw [hz] at hi; injection hi
        rw [if_neg (by omega), List.getElem?_set, if_pos rfl, if_pos hi2]; simp
      · rw [if_pos (by omega), List.getElem?_set, if_pos rfl, if_pos (by simp; omega)]; simp
    · by_cases e1 : i = k
      · subst e1
        obtain rfl : z = x := by rw [hz] at hi; injection hi
        rw [if_pos (by omega), List.getElem?_set, if_neg e2, List.getElem?_set, if_pos rfl, if_pos hi2]; simp
      · have e3 : (z != (decide (j = k) || decide (i = k))) = z := by simp [e1, e2]
        rw [e3]
        split
        · rw [List.getElem?_set, if_neg e2, List.getElem?_set, if_neg e1, hz]
        · rw [List.getElem?_set, if_neg e1, hz]
  · rw [List.getElem?_eq_none (by rw [xorL_len (by rw [trn_len]; exact h)]; omega)]
    split
    · rw [List.getElem?_eq_none (by simp; omega)]
    · rw [List.getElem?_eq_none (by simp; omega)]
/-- what bose.Fix comes to where something was turned -/
def BoseP (w : World) (l : List Bool) (e : Ending) (w' : World) : Prop :=
  (∃ i j, i ≤ j ∧ j < 15 ∧ hitB (smA l) (smB l) i j = true ∧ ∃ A n c, e = .returned (.tuple #[.slice A n c, .int .i64 (if i < j then 2 else 1), .int .i64 0]) ∧ Reads w' w'.heap.size A n (vb ((xorL l (trn i j)).take 7)) ∧ Below w.heap.size w w') ∨
  ((∀ i j, i ≤ j → j < 15 → hitB (smA l) (smB l) i j = false) ∧ e = .returned (.tuple #[.slice none 0 0, .int .i64 0, .int .i64 5]) ∧ Below w.heap.size w w')
theorem vb_trn (i j : Nat) : vb (trn i j) = (([Value.bool false, .bool false, .bool false, .bool false, .bool false, .bool false, .bool false, .bool false, .bool false, .bool false, .bool false, .bool false, .bool false, .bool false, .bool false].set i (.bool true)).set j (.bool true)) := by
  unfold vb trn
  rw [List.map_set, List.map_set]; rfl
theorem bose_two {l : List Bool} {i j B : Nat} {xi xj : Bool} {w2 : World} {v2 : Value} (hi : l[i]? = some xi) (hj : l[j]? = some xj) (hl : l.length = 15) (hij : i < j) (ho : Own w2 B 4 v2 (vb l)) :
    ∃ (g k2 : Nat), v2 = .slice (some ⟨g, 0, none⟩) 15 k2 ∧ 15 ≤ k2 ∧ B ≤ g ∧ w2.cell? ⟨g, i, none⟩ = some (.bool xi) ∧ w2.frozen? ⟨g, i, none⟩ = false ∧ Own (w2.setCell ⟨g, i, none⟩ (.bool !xi)) B 4 (.slice (some ⟨g, 0, none⟩) 15 k2) (vb (l.set i !xi)) ∧
      (w2.setCell ⟨g, i, none⟩ (.bool !xi)).cell? ⟨g, j, none⟩ = some (.bool xj) ∧ (w2.setCell ⟨g, i, none⟩ (.bool !xi)).frozen? ⟨g, j, none⟩ = false ∧
      Own ((w2.setCell ⟨g, i, none⟩ (.bool !xi)).setCell ⟨g, j, none⟩ (.bool !xj)) B 4 (.slice (some ⟨g, 0, none⟩) 15 k2) (vb ((l.set i !xi).set j !xj)) := by
  obtain ⟨A2, k2, e2⟩ := ho.form
  rw [List.length_map, hl] at e2
  subst e2
  obtain ⟨ad, rfl⟩ := ho.reads.addr (by omega)
  obtain ⟨g, rfl, hg, _⟩ := ho.addr
  have hc := ho.capLe'
  have h1 := ho.cell (j := i) (u := .bool xi) (by rw [List.getElem?_map, hi]; rfl)
  have f1 := ho.frozenAt i
  have o3 := ho.set i (.bool !xi)
  rw [add_row] at h1 f1 o3
  rw [vb_set] at o3
  have h2 := o3.cell (j := j) (u := .bool xj) (by rw [List.getElem?_map, List.getElem?_set, if_neg (by omega), hj]; rfl)
  have f2 := o3.frozenAt j
  have o4 := o3.set j (.bool !xj)
  rw [add_row] at h2 f2 o4
  rw [vb_set] at o4
  exact ⟨g, k2, rfl, hc, hg, h1, f1, o3, h2, f2, o4⟩
theorem bose_onei {l : List Bool} {i B : Nat} {xi : Bool} {w2 : World} {v2 : Value} (hi : l[i]? = some xi) (hl : l.length = 15) (ho : Own w2 B 4 v2 (vb l)) :
    ∃ (g k2 : Nat), v2 = .slice (some ⟨g, 0, none⟩) 15 k2 ∧ 15 ≤ k2 ∧ B ≤ g ∧ w2.cell? ⟨g, i, none⟩ = some (.bool xi) ∧ w2.frozen? ⟨g, i, none⟩ = false ∧ Own (w2.setCell ⟨g, i, none⟩ (.bool !xi)) B 4 (.slice (some ⟨g, 0, none⟩) 15 k2) (vb (l.set i !xi)) := by
  obtain ⟨A2, k2, e2⟩ := ho.form
  rw [List.length_map, hl] at e2
  subst e2
  obtain ⟨ad, rfl⟩ := ho.reads.addr (by omega)
  obtain ⟨g, rfl, hg, _⟩ := ho.addr
  have hc := ho.capLe'
  have h1 := ho.cell (j := i) (u := .bool xi) (by rw [List.getElem?_map, hi]; rfl)
  have f1 := ho.frozenAt i
  have o3 := ho.set i (.bool !xi)
  rw [add_row] at h1 f1 o3
  rw [vb_set] at o3
  exact ⟨g, k2, rfl, hc, hg, h1, f1, o3⟩
set_option maxRecDepth 100000 in
set_option maxHeartbeats 1600000 in
theorem bose_Fix (A : Option Addr) (c : Nat) (l : List Bool) (w : World) (h : Reads w w.heap.size A 15 (vb l)) (h0 : Hid (¬ (smA l = 0 ∧ smB l = 0))) :
    Calls Try.prog 23 #[.slice A 15 c] w (BoseP w l) := by
  have H := Lib.hid h.bool_len
  have c1 := bose_sums_any A c l w h
  have ha := smA_lt l
  have hb := smB_lt l
  obtain ⟨p, hp⟩ : ∃ p, smA l = p := ⟨_, rfl⟩
  obtain ⟨q, hq⟩ : ∃ q, smB l = q := ⟨_, rfl⟩
  have HP := Lib.hid hp
  have HQ := Lib.hid hq
  rw [hp, hq] at h0
  rw [hp] at c1 ha
  rw [hq] at c1 hb
  clear hp hq
  by_cases hp0 : p = 0
  · have hp1 : ((p : Int) == 0) = true := by simp; omega
    have hq0 : ((q : Int) == 0) = false := by have := h0.out; simp; intro e; exact this ⟨hp0, by omega⟩
    clear hp0 h0
    go_enter Try.func23, Try.ntmps23
    go_wp2_with (go_at_call 45; refine c1.mono ?_; clear c1; rintro e w1 ⟨rfl, rfl⟩)
    go_loopw [34] (fun iv wr => ∃ i : Nat, i ≤ 15 ∧ iv = .int .i64 i ∧ Below w.heap.size w wr ∧ Hid (∀ i' j', i' ≤ j' → j' < 15 → i' < i → hitB p q i' j' = false)) (fun i _ => 15 - (intOf i).toNat)
    case atStart => exact ⟨0, by omega, rfl, Below.refl _ _, fun i' j' _ _ h => absurd h (by omega)⟩
    case round =>
      obtain ⟨i, hi, rfl, hbel, hno⟩ := hrel
      by_cases hlt : i < 15
      · have i1 : (i : Int) < 15 := by omega
        go_wp2
        go_loopw [8] (fun jv wi => ∃ j : Nat, i ≤ j ∧ j ≤ 15 ∧ jv = .int .i64 j ∧ Below w.heap.size w wi ∧ Hid (∀ j', i ≤ j' → j' < j → hitB p q i j' = false)) (fun j _ => 15 - (intOf j).toNat)
        case atStart => exact ⟨i, by omega, by omega, rfl, hbel, fun j' h1 h2 => absurd h2 (by omega)⟩
        case round =>
          obtain ⟨j, hij, hj, rfl, hbi, hno2⟩ := hrel
          by_cases hlt2 : j < 15
          · have j1 : (j : Int) < 15 := by omega
            have c2 := fun (W : World) (hr : Reads W (wr.heap.size + 1) (some ⟨wr.heap.size, 0, none⟩) 15 (vb (trn i j))) => bose_sums_any (some ⟨wr.heap.size, 0, none⟩) 15 (trn i j) W hr
            have HT := Lib.hid (vb_trn i j)
            have hx16 := smA_lt (trn i j)
            have hy16 := smB_lt (trn i j)
            have HI : Hid (hitB p q i j = (decide (smA (trn i j) = p) && decide (smB (trn i j) = q))) := rfl
            obtain ⟨x, hx⟩ : ∃ x, smA (trn i j) = x := ⟨_, rfl⟩
            obtain ⟨y, hy⟩ : ∃ y, smB (trn i j) = y := ⟨_, rfl⟩
            rw [hx] at hx16 HI
            rw [hy] at hy16 HI
            have c2 := fun (W : World) (hr : Reads W (wr.heap.size + 1) (some ⟨wr.heap.size, 0, none⟩) 15 (vb (trn i j))) => (by have := c2 W hr; rw [hx, hy] at this; exact this : Calls Try.prog 45 #[.slice (some ⟨wr.heap.size, 0, none⟩) 15 15] W (Ret W (.tuple #[.int .i64 (x : Int), .int .i64 (y : Int)])))
            clear hx hy
            by_cases hhit : x = p ∧ y = q
            · obtain ⟨rfl, rfl⟩ := hhit
              have HH : Hid (hitB x y i j = true) := by unfold Hid; rw [HI.out]; simp
              obtain ⟨xi, hxi⟩ : ∃ b, l[i]? = some b := ⟨_, List.getElem?_eq_getElem (by rw [H.out]; exact hlt)⟩
              obtain ⟨xj, hxj⟩ : ∃ b, l[j]? = some b := ⟨_, List.getElem?_eq_getElem (by rw [H.out]; exact hlt2)⟩
              have HX := Lib.hid (xor_trn H.out hxi hxj hij)
              have HXI := Lib.hid hxi
              have HXJ := Lib.hid hxj
              clear hxi hxj HI
              have hoA : ∀ W : World, Own (W.alloc (.cells #[] 4)) W.heap.size 4 (.slice (some ⟨W.heap.size, 0, none⟩) 0 0) [] := fun W => Own.built W #[] 0 rfl (by unfold maxLen; omega) (Nat.le_refl _)
              have hvl : (vb l).length = 15 := by rw [List.length_map]; exact H.out
              have HVL := Lib.hid hvl
              clear hvl
              by_cases hij2 : i < j
              · have k1 : (i : Int) < (j : Int) := by omega
                have HX2 : Hid (xorL l (trn i j) = (l.set i (!xi)).set j (!xj)) := by unfold Hid; rw [HX.out, if_pos hij2]
                clear HX
                go_wp2_with (first
                  | (go_at_call 45; refine (c2 _ (by rw [HT.out]; exact reads_lay wr _ _ 15 (by simp))).mono ?_; clear c2; rintro e w3 ⟨rfl, rfl⟩; have hbx := hbi.alloc hbi.size (.cells (([Value.bool false, .bool false, .bool false, .bool false, .bool false, .bool false, .bool false, .bool false, .bool false, .bool false, .bool false, .bool false, .bool false, .bool false, .bool false].set i (.bool true)).set j (.bool true)).toArray 70); generalize wr.alloc (.cells (([Value.bool false, .bool false, .bool false, .bool false, .bool false, .bool false, .bool false, .bool false, .bool false, .bool false, .bool false, .bool false, .bool false, .bool false, .bool false].set i (.bool true)).set j (.bool true)).toArray 70) = wz at *; have hoA1 := hoA wz; have hrA : Reads (wz.alloc (.cells #[] 4)) w.heap.size A 15 (vb l) := (h.below hbx).alloc hbx.size _; have hbA := hbx.alloc hbx.size (.cells #[] 4))
                  | (at_builtin; refine appN el_clone_bools rfl _ _ rfl rfl hoA1 rfl hrA (one_vb l) (by show 0 + 15 ≤ maxLen; unfold maxLen; omega) (by show (0 + 15) * 1 ≤ _; omega) (by simp) ?_; clear hoA1 hrA; intro v2 w2 ho2 hb2 _ _; rw [List.nil_append] at ho2; obtain ⟨g, k2, rfl, hk2, hbg, hcI, hfI, ho3, hcJ, hfJ, ho4⟩ := bose_two HXI.out HXJ.out H.out hij2 ho2; have hbB := hbA.trans ((hb2.mono hbx.size)); have k3 : 7 ≤ k2 := (by omega); have k4 : ¬ k2 = 7 := (by omega); have hoA2 := hoA ((w2.setCell ⟨g, i, none⟩ (.bool !xi)).setCell ⟨g, j, none⟩ (.bool !xj)); rw [show ((w2.setCell ⟨g, i, none⟩ (.bool !xi)).setCell ⟨g, j, none⟩ (.bool !xj)).heap.size = w2.heap.size from by simp] at hoA2; have hrA2 := (ho4.reads.take (k := 7) (by omega)).alloc (Nat.le_refl _) (.cells #[] 4); have hgb := Nat.le_trans hbx.size hbg)
                  | (at_builtin; refine appN el_clone_bools rfl _ _ rfl rfl hoA2 rfl hrA2 (fun u hu => one_vb _ u (List.mem_of_mem_take hu)) (by show 0 + 7 ≤ maxLen; unfold maxLen; omega) (by show (0 + 7) * 1 ≤ _; omega) (by simp) ?_; intro v5 w5 ho5 hb5 _ _; rw [List.nil_append] at ho5))
                obtain ⟨A5, c5, e5⟩ := ho5.form
                generalize hn5 : (List.take 7 (vb ((l.set i !xi).set j !xj))).length = n5 at e5
                clear hn5
                subst e5
                go_ret3
                refine .inl ⟨i, j, hij, hlt2, ?_, A5, n5, c5, ?_, ?_, ?_⟩
                · rw [HP.out, HQ.out]; exact HH.out
                · rw [if_pos hij2]; rfl
                · rw [HX2.out]
                  have := ho5.reads
                  unfold vb at this ⊢
                  rw [← List.map_take] at this
                  exact this
                · exact (((hbB.setCell (p := ⟨g, i, none⟩) hgb _).setCell (p := ⟨g, j, none⟩) hgb _).alloc (by simp; exact hbB.size) _).trans (hb5.mono hbB.size)
              · obtain rfl : i = j := by omega
                have k1 : ¬ (i : Int) < (i : Int) := by omega
                have HX2 : Hid (xorL l (trn i i) = (l.set i (!xi))) := by unfold Hid; rw [HX.out, if_neg hij2]
                have HT2 : Hid (vb (trn i i) = [Value.bool false, .bool false, .bool false, .bool false, .bool false, .bool false, .bool false, .bool false, .bool false, .bool false, .bool false, .bool false, .bool false, .bool false, .bool false].set i (.bool true)) := by have := HT.out; rw [List.set_set] at this; exact this
                clear HX hij2
                go_wp2_with (first
                  | (go_at_call 45; refine (c2 _ (by rw [HT2.out]; exact reads_lay wr _ _ 15 (by simp))).mono ?_; clear c2; rintro e w3 ⟨rfl, rfl⟩; have hbx := hbi.alloc hbi.size (.cells ([Value.bool false, .bool false, .bool false, .bool false, .bool false, .bool false, .bool false, .bool false, .bool false, .bool false, .bool false, .bool false, .bool false, .bool false, .bool false].set i (.bool true)).toArray 70); generalize wr.alloc (.cells ([Value.bool false, .bool false, .bool false, .bool false, .bool false, .bool false, .bool false, .bool false, .bool false, .bool false, .bool false, .bool false, .bool false, .bool false, .bool false].set i (.bool true)).toArray 70) = wz at *; have hoA1 := hoA wz; have hrA : Reads (wz.alloc (.cells #[] 4)) w.heap.size A 15 (vb l) := (h.below hbx).alloc hbx.size _; have hbA := hbx.alloc hbx.size (.cells #[] 4))
                  | (at_builtin; refine appN el_clone_bools rfl _ _ rfl rfl hoA1 rfl hrA (one_vb l) (by show 0 + 15 ≤ maxLen; unfold maxLen; omega) (by show (0 + 15) * 1 ≤ _; omega) (by simp) ?_; clear hoA1 hrA; intro v2 w2 ho2 hb2 _ _; rw [List.nil_append] at ho2; obtain ⟨g, k2, rfl, hk2, hbg, hcI, hfI, ho3⟩ := bose_onei HXI.out H.out ho2; have hbB := hbA.trans ((hb2.mono hbx.size)); have k3 : 7 ≤ k2 := (by omega); have k4 : ¬ k2 = 7 := (by omega); have hoA2 := hoA (w2.setCell ⟨g, i, none⟩ (.bool !xi)); rw [show (w2.setCell ⟨g, i, none⟩ (.bool !xi)).heap.size = w2.heap.size from by simp] at hoA2; have hrA2 := (ho3.reads.take (k := 7) (by omega)).alloc (Nat.le_refl _) (.cells #[] 4); have hgb := Nat.le_trans hbx.size hbg)
                  | (at_builtin; refine appN el_clone_bools rfl _ _ rfl rfl hoA2 rfl hrA2 (fun u hu => one_vb _ u (List.mem_of_mem_take hu)) (by show 0 + 7 ≤ maxLen; unfold maxLen; omega) (by show (0 + 7) * 1 ≤ _; omega) (by simp) ?_; intro v5 w5 ho5 hb5 _ _; rw [List.nil_append] at ho5))
                obtain ⟨A5, c5, e5⟩ := ho5.form
                generalize hn5 : (List.take 7 (vb (l.set i !xi))).length = n5 at e5
                clear hn5
                subst e5
                go_ret3
                refine .inl ⟨i, i, Nat.le_refl _, hlt2, ?_, A5, n5, c5, ?_, ?_, ?_⟩
                · rw [HP.out, HQ.out]; exact HH.out
                · rw [if_neg (Nat.lt_irrefl _)]; rfl
                · rw [HX2.out]
                  have := ho5.reads
                  unfold vb at this ⊢
                  rw [← List.map_take] at this
                  exact this
                · exact ((hbB.setCell (p := ⟨g, i, none⟩) hgb _).alloc (by simp; exact hbB.size) _).trans (hb5.mono hbB.size)
            · have HH : Hid (hitB p q i j = false) := by
                unfold Hid; rw [HI.out]
                by_cases h1 : x = p
                · by_cases h2 : y = q
                  · exact absurd ⟨h1, h2⟩ hhit
                  · simp [h2]
                · simp [h1]
              have HN2 : Hid (∀ j', i ≤ j' → j' < j + 1 → hitB p q i j' = false) := by
                intro j' g1 g2
                rcases Nat.lt_or_ge j' j with g3 | g3
                · exact hno2.out j' g1 g3
                · obtain rfl : j' = j := by omega
                  exact HH.out
              by_cases hxp : x = p
              · subst hxp
                have t2 : ((y : Int) == (q : Int)) = false := by simp; intro e; exact hhit ⟨rfl, by omega⟩
                clear hhit HI
                go_wp2_with (go_at_call 45; refine (c2 _ (by rw [HT.out]; exact reads_lay wr _ _ 15 (by simp))).mono ?_; clear c2; rintro e w3 ⟨rfl, rfl⟩)
                go_roundw
                case rel => exact ⟨j + 1, by omega, by omega, by go_num, hbi.alloc hbi.size _, HN2⟩
                case measure => simp [intOf]; omega
              · have t1 : ((x : Int) == (p : Int)) = false := by simp; omega
                clear hhit HI hxp
                go_wp2_with (go_at_call 45; refine (c2 _ (by rw [HT.out]; exact reads_lay wr _ _ 15 (by simp))).mono ?_; clear c2; rintro e w3 ⟨rfl, rfl⟩)
                go_roundw
                case rel => exact ⟨j + 1, by omega, by omega, by go_num, hbi.alloc hbi.size _, HN2⟩
                case measure => simp [intOf]; omega
          · obtain rfl : j = 15 := by omega
            have HN : Hid (∀ i' j', i' ≤ j' → j' < 15 → i' < i + 1 → hitB p q i' j' = false) := by
              intro i' j' g1 g2 g3
              rcases Nat.lt_or_ge i' i with g4 | g4
              · exact hno.out i' j' g1 g2 g4
              · obtain rfl : i' = i := by omega
                exact hno2.out j' g1 g2
            clear hno hno2
            go_wp2
            go_roundw
            case rel => exact ⟨i + 1, by omega, by go_num, hbi, HN⟩
            case measure => simp [intOf]; omega
      · obtain rfl : i = 15 := by omega
        go_wp2
        go_ret3
        exact .inr ⟨fun i' j' g1 g2 => by rw [HP.out, HQ.out]; exact hno.out i' j' g1 g2 (by omega), rfl, hbel⟩
  · have hp1 : ((p : Int) == 0) = false := by simp; omega
    clear hp0 h0
    go_enter Try.func23, Try.ntmps23
    go_wp2_with (go_at_call 45; refine c1.mono ?_; clear c1; rintro e w1 ⟨rfl, rfl⟩)
    go_loopw [34] (fun iv wr => ∃ i : Nat, i ≤ 15 ∧ iv = .int .i64 i ∧ Below w.heap.size w wr ∧ Hid (∀ i' j', i' ≤ j' → j' < 15 → i' < i → hitB p q i' j' = false)) (fun i _ => 15 - (intOf i).toNat)
    case atStart => exact ⟨0, by omega, rfl, Below.refl _ _, fun i' j' _ _ h => absurd h (by omega)⟩
    case round =>
      obtain ⟨i, hi, rfl, hbel, hno⟩ := hrel
      by_cases hlt : i < 15
      · have i1 : (i : Int) < 15 := by omega
        go_wp2
        go_loopw [8] (fun jv wi => ∃ j : Nat, i ≤ j ∧ j ≤ 15 ∧ jv = .int .i64 j ∧ Below w.heap.size w wi ∧ Hid (∀ j', i ≤ j' → j' < j → hitB p q i j' = false)) (fun j _ => 15 - (intOf j).toNat)
        case atStart => exact ⟨i, by omega, by omega, rfl, hbel, fun j' h1 h2 => absurd h2 (by omega)⟩
        case round =>
          obtain ⟨j, hij, hj, rfl, hbi, hno2⟩ := hrel
          by_cases hlt2 : j < 15
          · have j1 : (j : Int) < 15 := by omega
            have c2 := fun (W : World) (hr : Reads W (wr.heap.size + 1) (some ⟨wr.heap.size, 0, none⟩) 15 (vb (trn i j))) => bose_sums_any (some ⟨wr.heap.size, 0, none⟩) 15 (trn i j) W hr
            have HT := Lib.hid (vb_trn i j)
            have hx16 := smA_lt (trn i j)
            have hy16 := smB_lt (trn i j)
            have HI : Hid (hitB p q i j = (decide (smA (trn i j) = p) && decide (smB (trn i j) = q))) := rfl
            obtain ⟨x, hx⟩ : ∃ x, smA (trn i j) = x := ⟨_, rfl⟩
            obtain ⟨y, hy⟩ : ∃ y, smB (trn i j) = y := ⟨_, rfl⟩
            rw [hx] at hx16 HI
            rw [hy] at hy16 HI
            have c2 := fun (W : World) (hr : Reads W (wr.heap.size + 1) (some ⟨wr.heap.size, 0, none⟩) 15 (vb (trn i j))) => (by have := c2 W hr; rw [hx, hy] at this; exact this : Calls Try.prog 45 #[.slice (some ⟨wr.heap.size, 0, none⟩) 15 15] W (Ret W (.tuple #[.int .i64 (x : Int), .int .i64 (y : Int)])))
            clear hx hy
            by_cases hhit : x = p ∧ y = q
            · obtain ⟨rfl, rfl⟩ := hhit
              have HH : Hid (hitB x y i j = true) := by unfold Hid; rw [HI.out]; simp
              obtain ⟨xi, hxi⟩ : ∃ b, l[i]? = some b := ⟨_, List.getElem?_eq_getElem (by rw [H.out]; exact hlt)⟩
              obtain ⟨xj, hxj⟩ : ∃ b, l[j]? = some b := ⟨_, List.getElem?_eq_getElem (by rw [H.out]; exact hlt2)⟩
              have HX := Lib.hid (xor_trn H.out hxi hxj hij)
              have HXI := Lib.hid hxi
              have HXJ := Lib.hid hxj
              clear hxi hxj HI
              have hoA : ∀ W : World, Own (W.alloc (.cells #[] 4)) W.heap.size 4 (.slice (some ⟨W.heap.size, 0, none⟩) 0 0) [] := fun W => Own.built W #[] 0 rfl (by unfold maxLen; omega) (Nat.le_refl _)
              have hvl : (vb l).length = 15 := by rw [List.length_map]; exact H.out
              have HVL := Lib.hid hvl
              clear hvl
              by_cases hij2 : i < j
              · have k1 : (i : Int) < (j : Int) := by omega
                have HX2 : Hid (xorL l (trn i j) = (l.set i (!xi)).set j (!xj)) := by unfold Hid; rw [HX.out, if_pos hij2]
                clear HX
                go_wp2_with (first
                  | (go_at_call 45; refine (c2 _ (by rw [HT.out]; exact reads_lay wr _ _ 15 (by simp))).mono ?_; clear c2; rintro e w3 ⟨rfl, rfl⟩; have hbx := hbi.alloc hbi.size (.cells (([Value.bool false, .bool false, .bool false, .bool false, .bool false, .bool false, .bool false, .bool false, .bool false, .bool false, .bool false, .bool false, .bool false, .bool false, .bool false].set i (.bool true)).set j (.bool true)).toArray 70); generalize wr.alloc (.cells (([Value.bool false, .bool false, .bool false, .bool false, .bool false, .bool false, .bool false, .bool false, .bool false, .bool false, .bool false, .bool false, .bool false, .bool false, .bool false].set i (.bool true)).set j (.bool true)).toArray 70) = wz at *; have hoA1 := hoA wz; have hrA : Reads (wz.alloc (.cells #[] 4)) w.heap.size A 15 (vb l) := (h.below hbx).alloc hbx.size _; have hbA := hbx.alloc hbx.size (.cells #[] 4))
                  | (at_builtin; refine appN el_clone_bools rfl _ _ rfl rfl hoA1 rfl hrA (one_vb l) (by show 0 + 15 ≤ maxLen; unfold maxLen; omega) (by show (0 + 15) * 1 ≤ _; omega) (by simp) ?_; clear hoA1 hrA; intro v2 w2 ho2 hb2 _ _; rw [List.nil_append] at ho2; obtain ⟨g, k2, rfl, hk2, hbg, hcI, hfI, ho3, hcJ, hfJ, ho4⟩ := bose_two HXI.out HXJ.out H.out hij2 ho2; have hbB := hbA.trans ((hb2.mono hbx.size)); have k3 : 7 ≤ k2 := (by omega); have k4 : ¬ k2 = 7 := (by omega); have hoA2 := hoA ((w2.setCell ⟨g, i, none⟩ (.bool !xi)).setCell ⟨g, j, none⟩ (.bool !xj)); rw [show ((w2.setCell ⟨g, i, none⟩ (.bool !xi)).setCell ⟨g, j, none⟩ (.bool !xj)).heap.size = w2.heap.size from by simp] at hoA2; have hrA2 := (ho4.reads.take (k := 7) (by omega)).alloc (Nat.le_refl _) (.cells #[] 4); have hgb := Nat.le_trans hbx.size hbg)
                  | (at_builtin; refine appN el_clone_bools rfl _ _ rfl rfl hoA2 rfl hrA2 (fun u hu => one_vb _ u (List.mem_of_mem_take hu)) (by show 0 + 7 ≤ maxLen; unfold maxLen; omega) (by show (0 + 7) * 1 ≤ _; omega) (by simp) ?_; intro v5 w5 ho5 hb5 _ _; rw [List.nil_append] at ho5))
                obtain ⟨A5, c5, e5⟩ := ho5.form
                generalize hn5 : (List.take 7 (vb ((l.set i !xi).set j !xj))).length = n5 at e5
                clear hn5
                subst e5
                go_ret3
                refine .inl ⟨i, j, hij, hlt2, ?_, A5, n5, c5, ?_, ?_, ?_⟩
                · rw [HP.out, HQ.out]; exact HH.out
                · rw [if_pos hij2]; rfl
                · rw [HX2.out]
                  have := ho5.reads
                  unfold vb at this ⊢
                  rw [← List.map_take] at this
                  exact this
                · exact (((hbB.setCell (p := ⟨g, i, none⟩) hgb _).setCell (p := ⟨g, j, none⟩) hgb _).alloc (by simp; exact hbB.size) _).trans (hb5.mono hbB.size)
              · obtain rfl : i = j := by omega
                have k1 : ¬ (i : Int) < (i : Int) := by omega
                have HX2 : Hid (xorL l (trn i i) = (l.set i (!xi))) := by unfold Hid; rw [HX.out, if_neg hij2]
                have HT2 : Hid (vb (trn i i) = [Value.bool false, .bool false, .bool false, .bool false, .bool false, .bool false, .bool false, .bool false, .bool false, .bool false, .bool false, .bool false, .bool false, .bool false, .bool false].set i (.bool true)) := by have := HT.out; rw [List.set_set] at this; exact this
                clear HX hij2
                go_wp2_with (first
                  | (go_at_call 45; refine (c2 _ (by rw [HT2.out]; exact reads_lay wr _ _ 15 (by simp))).mono ?_; clear c2; rintro e w3 ⟨rfl, rfl⟩; have hbx := hbi.alloc hbi.size (.cells ([Value.bool false, .bool false, .bool false, .bool false, .bool false, .bool false, .bool false, .bool false, .bool false, .bool false, .bool false, .bool false, .bool false, .bool false, .bool false].set i (.bool true)).toArray 70); generalize wr.alloc (.cells ([Value.bool false, .bool false, .bool false, .bool false, .bool false, .bool false, .bool false, .bool false, .bool false, .bool false, .bool false, .bool false, .bool false, .bool false, .bool false].set i (.bool true)).toArray 70) = wz at *; have hoA1 := hoA wz; have hrA : Reads (wz.alloc (.cells #[] 4)) w.heap.size A 15 (vb l) := (h.below hbx).alloc hbx.size _; have hbA := hbx.alloc hbx.size (.cells #[] 4))
                  | (at_builtin; refine appN el_clone_bools rfl _ _ rfl rfl hoA1 rfl hrA (one_vb l) (by show 0 + 15 ≤ maxLen; unfold maxLen; omega) (by show (0 + 15) * 1 ≤ _; omega) (by simp) ?_; clear hoA1 hrA; intro v2 w2 ho2 hb2 _ _; rw [List.nil_append] at ho2; obtain ⟨g, k2, rfl, hk2, hbg, hcI, hfI, ho3⟩ := bose_onei HXI.out H.out ho2; have hbB := hbA.trans ((hb2.mono hbx.size)); have k3 : 7 ≤ k2 := (by omega); have k4 : ¬ k2 = 7 := (by omega); have hoA2 := hoA (w2.setCell ⟨g, i, none⟩ (.bool !xi)); rw [show (w2.setCell ⟨g, i, none⟩ (.bool !xi)).heap.size = w2.heap.size from by simp] at hoA2; have hrA2 := (ho3.reads.take (k := 7) (by omega)).alloc (Nat.le_refl _) (.cells #[] 4); have hgb := Nat.le_trans hbx.size hbg)
                  | (at_builtin; refine appN el_clone_bools rfl _ _ rfl rfl hoA2 rfl hrA2 (fun u hu => one_vb _ u (List.mem_of_mem_take hu)) (by show 0 + 7 ≤ maxLen; unfold maxLen; omega) (by show (0 + 7) * 1 ≤ _; omega) (by simp) ?_; intro v5 w5 ho5 hb5 _ _; rw [List.nil_append] at ho5))
                obtain ⟨A5, c5, e5⟩ := ho5.form
                generalize hn5 : (List.take 7 (vb (l.set i !xi))).length = n5 at e5
                clear hn5
                subst e5
                go_ret3
                refine .inl ⟨i, i, Nat.le_refl _, hlt2, ?_, A5, n5, c5, ?_, ?_, ?_⟩
                · rw [HP.out, HQ.out]; exact HH.out
                · rw [if_neg (Nat.lt_irrefl _)]; rfl
                · rw [HX2.out]
                  have := ho5.reads
                  unfold vb at this ⊢
                  rw [← List.map_take] at this
                  exact this
                · exact ((hbB.setCell (p := ⟨g, i, none⟩) hgb _).alloc (by simp; exact hbB.size) _).trans (hb5.mono hbB.size)
            · have HH : Hid (hitB p q i j = false) := by
                unfold Hid; rw [HI.out]
                by_cases h1 : x = p
                · by_cases h2 : y = q
                  · exact absurd ⟨h1, h2⟩ hhit
                  · simp [h2]
                · simp [h1]
              have HN2 : Hid (∀ j', i ≤ j' → j' < j + 1 → hitB p q i j' = false) := by
                intro j' g1 g2
                rcases Nat.lt_or_ge j' j with g3 | g3
                · exact hno2.out j' g1 g3
                · obtain rfl : j' = j := by omega
                  exact HH.out
              by_cases hxp : x = p
              · subst hxp
                have t2 : ((y : Int) == (q : Int)) = false := by simp; intro e; exact hhit ⟨rfl, by omega⟩
                clear hhit HI
                go_wp2_with (go_at_call 45; refine (c2 _ (by rw [HT.out]; exact reads_lay wr _ _ 15 (by simp))).mono ?_; clear c2; rintro e w3 ⟨rfl, rfl⟩)
                go_roundw
                case rel => exact ⟨j + 1, by omega, by omega, by go_num, hbi.alloc hbi.size _, HN2⟩
                case measure => simp [intOf]; omega
              · have t1 : ((x : Int) == (p : Int)) = false := by simp; omega
                clear hhit HI hxp
                go_wp2_with (go_at_call 45; refine (c2 _ (by rw [HT.out]; exact reads_lay wr _ _ 15 (by simp))).mono ?_; clear c2; rintro e w3 ⟨rfl, rfl⟩)
                go_roundw
                case rel => exact ⟨j + 1, by omega, by omega, by go_num, hbi.alloc hbi.size _, HN2⟩
                case measure => simp [intOf]; omega
          · obtain rfl : j = 15 := by omega
            have HN : Hid (∀ i' j', i' ≤ j' → j' < 15 → i' < i + 1 → hitB p q i' j' = false) := by
              intro i' j' g1 g2 g3
              rcases Nat.lt_or_ge i' i with g4 | g4
              · exact hno.out i' j' g1 g2 g4
              · obtain rfl : i' = i := by omega
                exact hno2.out j' g1 g2
            clear hno hno2
            go_wp2
            go_roundw
            case rel => exact ⟨i + 1, by omega, by go_num, hbi, HN⟩
            case measure => simp [intOf]; omega
      · obtain rfl : i = 15 := by omega
        go_wp2
        go_ret3
        exact .inr ⟨fun i' j' g1 g2 => by rw [HP.out, HQ.out]; exact hno.out i' j' g1 g2 (by omega), rfl, hbel⟩
end Go.Proofs.Ythbmnaonnebnhaa

/-
  quipuref.Discs, walked.
-/
import Derived.Test.YtglcljlafioleaaAro
set_option linter.unusedVariables false
namespace Go.Proofs.Ytglcljlafioleaa
open Go.RowKit

theorem TabO.setOther {w : World} {b0 r m k : Nat} {gr : Nat → Nat} {f : Nat → Nat → Nat} (h : TabO w b0 r m k gr f) (p : Addr) (v : Value) (h1 : b0 ≠ p.block) (h2 : ∀ i, i < k → gr i ≠ p.block) : TabO (w.setCell p v) b0 r m k gr f :=
  ⟨h.col.setOther _ _ (by simp [Value.ownBlock]; omega), fun i hi => (h.row i hi).setOther _ _ (by have := h2 i hi; simp [Value.ownBlock]; omega), h.inj⟩
theorem sumTo_lt {d : Nat} {bl : List Nat} (hb : ∀ k, bl.getD k 0 < 256) : ∀ k row, sumTo d bl k row < 256
  | 0, _ => by show 0 < 256; omega
  | k + 1, row => by
    show (if row = (placeN d k).2 then sumTo d bl k row ^^^ bl.getD k 0 else sumTo d bl k row) < 256
    split
    · exact xor_lt256 (sumTo_lt hb k row) (hb k)
    · exact sumTo_lt hb k row
theorem sums_set (d : Nat) (bl : List Nat) (k r : Nat) (h : (placeN d k).2 < r) : (vn .u8 ((List.range r).map (sumTo d bl k))).set (placeN d k).2 (.int .u8 ((sumTo d bl k (placeN d k).2 ^^^ bl.getD k 0 : Nat) : Int)) = vn .u8 ((List.range r).map (sumTo d bl (k + 1))) := by
  apply List.ext_getElem?
  intro j
  have hl : ∀ f : Nat → Nat, (vn .u8 ((List.range r).map f)).length = r := fun f => by simp [vn]
  have hat : ∀ (f : Nat → Nat) (j : Nat), j < r → (vn .u8 ((List.range r).map f))[j]? = some (.int .u8 (f j : Int)) := fun f j hj => by
    unfold vn; rw [List.getElem?_map, List.getElem?_map, List.getElem?_range hj]; rfl
  rcases Nat.lt_or_ge j r with hj | hj
  · rw [hat _ j hj]
    show _ = some (Value.int .u8 ((if j = (placeN d k).2 then sumTo d bl k j ^^^ bl.getD k 0 else sumTo d bl k j : Nat) : Int))
    by_cases e : j = (placeN d k).2
    · rw [if_pos e, e, List.getElem?_set_self (by rw [hl]; exact h)]
    · rw [if_neg e, List.getElem?_set_ne (fun e2 => e e2.symm), hat _ j hj]
  · rw [List.getElem?_eq_none (by rw [List.length_set, hl]; exact hj), List.getElem?_eq_none (by rw [hl]; exact hj)]
theorem rowD_setFull (gr : Nat → Nat) (r m k g : Nat) (hk : k < m) : (rowD gr r m m).set k (.slice (some ⟨g, 0, none⟩) r r) = rowD (fun i => if i = k then g else gr i) r m m := by
  apply List.ext_getElem?
  intro i
  rcases Nat.lt_or_ge i m with hi | hi
  · by_cases e : i = k
    · subst e
      rw [List.getElem?_set_self (by rw [rowD_len]; exact hi), rowD_at hi hi]
      simp
    · rw [List.getElem?_set_ne (by omega), rowD_at hi hi, rowD_at hi hi]
      simp [e]
  · rw [List.getElem?_eq_none (by rw [List.length_set, rowD_len]; exact hi), List.getElem?_eq_none (by rw [rowD_len]; exact hi)]
theorem cellD_same {f f' : Nat → Nat → Nat} {m i : Nat} (h : ∀ j, j < m → f i j = f' i j) : cellD f m i = cellD f' m i := by
  unfold cellD
  congr 1
  apply List.map_congr_left
  intro j hj
  exact h j (List.mem_range.1 hj)
/-- a row is hung in the place of another one -/
theorem TabO.rehang {w w' : World} {b0 r m x : Nat} {gr : Nat → Nat} {f f' : Nat → Nat → Nat} (h : TabO w b0 r m m gr f) (hx : x < m) {g : Nat} (ho : Own w' (b0 + 1) 5 (.slice (some ⟨g, 0, none⟩) r r) (cellD f' r x)) (hB : Below w.heap.size w w') (hg : w.heap.size ≤ g) (hf : ∀ i j, i < m → i ≠ x → j < r → f i j = f' i j) :
    TabO (w'.setCell ⟨b0, x, none⟩ (.slice (some ⟨g, 0, none⟩) r r)) b0 r m m (fun i => if i = x then g else gr i) f' := by
  have h2 := h.same hB
  have hlt := h.lt
  have ho2 := fun i (hi : i < m) => ((h.row i hi).lt (gr i) rfl).2
  refine ⟨?_, fun i hi => ?_, fun i j hi hj e => ?_⟩
  · have := h2.col.set x (.slice (some ⟨g, 0, none⟩) r r)
    rw [add_row, rowD_setFull gr r m x g hx] at this
    exact this
  · by_cases e : i = x
    · subst e
      simp only [if_true]
      exact ho.setOther _ _ (by simp [Value.ownBlock]; omega)
    · simp only [if_neg e]
      have := h2.ge (i := i) hi
      rw [← cellD_same (f := f) (fun j hj => hf i j hi e hj)]
      exact (h2.row i hi).setOther _ _ (by simp [Value.ownBlock]; omega)
  · by_cases e1 : i = x
    · by_cases e2 : j = x
      · omega
      · have := ho2 j hj
        simp only [if_pos e1, if_neg e2] at e
        omega
    · have h3 := ho2 i hi
      by_cases e2 : j = x
      · simp only [if_neg e1, if_pos e2] at e
        omega
      · simp only [if_neg e1, if_neg e2] at e
        exact h.inj i j hi hj e
set_option maxRecDepth 100000 in
set_option maxHeartbeats 4000000 in
theorem ref_Discs (d : Nat) (A : Option Addr) (c : Nat) (bl : List Nat) (z : Int) (w : World) (h : Reads w w.heap.size A 24 (vn .u8 bl)) (hw : ∀ x ∈ bl, x < 256) (h3 : 3 ≤ d) (h6 : d ≤ 6) (hz : z = -1 ∨ ∃ x : Nat, x < d ∧ z = (x : Int)) :
    Calls Try.prog 27 #[.int .i64 (d : Int), .slice A 24 c, .int .i64 z] w (fun e w' => ∃ b0 gr F, e = .returned (.slice (some ⟨b0, 0, none⟩) d d) ∧ TabO w' b0 (rowsD d) d d gr F ∧ Hid (∀ a row, a < d → row < rowsD d → F a row = if (a : Int) = z then 0 else chkTo d bl (rowsD d) a row) ∧ Below w.heap.size w w') := by
  have HRD := Lib.hid h
  have HW := Lib.hid hw
  obtain ⟨r1, r2, r3⟩ := rowsD_is h3 h6
  obtain ⟨r, hr⟩ : ∃ r, rowsD d = r := ⟨_, rfl⟩
  have HR := Lib.hid hr
  rw [hr] at r1 r2 r3 ⊢
  have hd1 : (((d : Int) - 1) == 0) = false := by simp; omega
  have hwd : IntKind.i64.wrap (d : Int) = (d : Int) := by rw [IntKind.wrap_i64]; omega
  have hwr : IntKind.i64.wrap (r : Int) = (r : Int) := by rw [IntKind.wrap_i64]; omega
  have hmk : ∀ w : World, (Instr.makeSlice 22 (.int .i64 (r : Int)) (.int .i64 (r : Int))).run Try.prog w = .ok (.slice (some ⟨w.heap.size, 0, none⟩) r r) (w.alloc (.cells (madeCells #[.int .u8 0] r) 5)) := fun w => run_make_row' 22 5 (.int .u8 0) 1 Try.underlying22 (by kernel_rfl) rfl .i64 .i64 r (by omega) (by omega) w
  clear h hw hr
  go_enter Try.func27, Try.ntmps27
  go_wp2_with (at_make; refine mkN el_rowsS rfl _ _ rfl w.heap.size d rfl rfl rfl rfl (by omega) (by unfold maxLen; omega) (Nat.le_refl _) ?_; intro w1 ho1 hb1 hs1)
  have hT0 : TabO w1 w.heap.size r d 0 (fun _ => 0) (fun _ _ => 0) := by
    refine ⟨?_, fun i hi => by omega, fun i j hi => by omega⟩
    rw [← rowD_zero]
    exact ho1
  have HT0 := Lib.hid hT0
  have HB0 := Lib.hid hb1
  clear hT0 ho1 hb1 hs1 r3
  go_loopw [9] (fun iv wr => ∃ (k : Nat) (gr : Nat → Nat), k ≤ d ∧ iv = .int .i64 (k : Int) ∧ TabO wr w.heap.size r d k gr (fun _ _ => 0) ∧ Below w.heap.size w wr) (fun iv _ => d - (intOf iv).toNat)
  case atStart => exact ⟨0, _, Nat.zero_le _, rfl, HT0.out, HB0.out⟩
  case round =>
    obtain ⟨k, gr, hk, rfl, htab, hbel⟩ := hrel
    obtain ⟨wo, rfl⟩ : ∃ x, x = wr := ⟨_, rfl⟩
    by_cases hlt : k < d
    · have i1 : (k : Int) < (d : Int) := by omega
      have i0 : (0 : Int) ≤ (k : Int) := by omega
      have HTAB := Lib.hid htab
      have HBEL := Lib.hid hbel
      have hgc : wo.cell? ⟨w.heap.size, k, none⟩ = some (.slice none 0 0) := by
        have := htab.col.cell (j := k) (u := .slice none 0 0) (by unfold rowD; rw [List.getElem?_map, List.getElem?_range hlt]; simp)
        rwa [add_row] at this
      have hgf := htab.colFree k
      have hgl : w.heap.size < wo.heap.size := htab.lt
      clear htab hbel
      go_wp2
      have hN := HTAB.out.hang hlt (w' := wo.alloc (.cells (madeCells #[.int .u8 0] r) 5)) (g := wo.heap.size) (by rw [← cellD_zero]; exact own_made el_u8S wo r (by unfold maxLen; omega) (by omega)) ((Below.refl _ _).alloc (Nat.le_refl _) _) (Nat.le_refl _)
      rw [World.setCell_alloc_past _ _ _ _ hgl] at hN
      have hBN : Below w.heap.size w ((wo.setCell ⟨w.heap.size, k, none⟩ (.slice (some ⟨wo.heap.size, 0, none⟩) r r)).alloc (.cells (madeCells #[.int .u8 0] r) 5)) := by
        rw [← World.setCell_alloc_past _ _ _ _ hgl]
        exact (HBEL.out.alloc HBEL.out.size _).setCell (p := ⟨w.heap.size, k, none⟩) (Nat.le_refl _) _
      go_roundw
      case rel => exact ⟨k + 1, _, by omega, by go_num, hN, hBN⟩
      case measure => simp [intOf] <;> omega
    · obtain rfl : d = k := by omega
      obtain ⟨sb, hsb⟩ : ∃ sb, wo.heap.size = sb := ⟨_, rfl⟩
      have hBs : Below wo.heap.size wo (wo.alloc (.cells (madeCells #[.int .u8 0] r) 5)) := (Below.refl _ wo).alloc (Nat.le_refl _) _
      have hgs : ∀ i, i < d → gr i < sb := fun i hi => by rw [← hsb]; exact ((htab.row i hi).lt (gr i) rfl).2
      have hb0s : w.heap.size < sb := by rw [← hsb]; exact htab.lt
      have hT1 := htab.same hBs
      have hS1 : Own (wo.alloc (.cells (madeCells #[.int .u8 0] r) 5)) sb 5 (.slice (some ⟨sb, 0, none⟩) r r) (vn .u8 ((List.range r).map (sumTo d bl 0))) := by
        have := own_made (base := sb) el_u8S wo r (by unfold maxLen; omega) (by omega)
        rw [hsb] at this
        have e : List.replicate r (Value.int .u8 0) = vn .u8 ((List.range r).map (sumTo d bl 0)) := by unfold vn sumTo; simp [List.map_const']
        rw [← e]; exact this
      have hB1 := hbel.trans (hBs.mono hbel.size)
      have HT1 := Lib.hid hT1
      have HS1 := Lib.hid hS1
      have HB1 := Lib.hid hB1
      have HGS := Lib.hid hgs
      have HSB := Lib.hid hsb
      have hge : Hid (∀ i, i < d → w.heap.size + 1 ≤ gr i) := fun i hi => htab.ge hi
      clear htab hbel hT1 hS1 hB1 hBs hgs HT0 HB0 hlt hk
      go_wp2
      clear hsb
      go_loopw [38] (fun iv wr => ∃ k : Nat, k ≤ 24 ∧ iv = .int .i64 (k : Int) ∧ TabO wr w.heap.size r d d gr (putTo d bl k) ∧ Own wr sb 5 (.slice (some ⟨sb, 0, none⟩) r r) (vn .u8 ((List.range r).map (sumTo d bl k))) ∧ Below w.heap.size w wr) (fun iv _ => 24 - (intOf iv).toNat)
      case atStart => exact ⟨0, by omega, rfl, HT1.out, HS1.out, HB1.out⟩
      case round =>
        obtain ⟨k, hk, rfl, htab, hsum, hbel⟩ := hrel
        clear HT1 HS1 HB1
        obtain ⟨wp, rfl⟩ : ∃ x, x = wr := ⟨_, rfl⟩
        by_cases hlt : k < 24
        · obtain ⟨ad, x, rfl, hadb, hx, hc⟩ := (HRD.out.below hbel).nat_at hlt
          have hx256 := HW.out x (mem_at hx)
          have hxd : bl.getD k 0 = x := by rw [List.getD_eq_getElem?_getD, hx]; rfl
          have hb256 : ∀ q, bl.getD q 0 < 256 := fun q => by
            rw [List.getD_eq_getElem?_getD]
            cases e : bl[q]? with
            | none => show 0 < 256; omega
            | some y => exact HW.out y (mem_at e)
          obtain ⟨p1, p2, p3⟩ := placeN_is h3 h6 hlt
          rw [HR.out] at p3
          have cw := ref_Where (d : Int) (k : Int) _ _ wp (by omega) (by omega) (by omega) (by omega) p1
          have hs256 := sumTo_lt hb256 (d := d) k (placeN d k).2
          have hset := sums_set d bl k r p3
          have eput : putTo d bl (k + 1) = setD (putTo d bl k) (placeN d k).1 (placeN d k).2 x := by rw [putTo, hxd]
          have hput := htab.put (i := (placeN d k).1) (j := (placeN d k).2) x p3 p2
          rw [← eput] at hput
          have hgd := HGS.out _ p2
          have hge2 := hge.out _ p2
          have hs0 : ((vn .u8 ((List.range r).map (sumTo d bl k)))[(placeN d k).2]? = some (.int .u8 ((sumTo d bl k (placeN d k).2 : Nat) : Int))) := by
            unfold vn; rw [List.getElem?_map, List.getElem?_map, List.getElem?_range p3]; rfl
          have c2 := htab.rowAt (i := (placeN d k).1) p2 p2
          have c3 := htab.cellAt (i := (placeN d k).1) (j := (placeN d k).2) p3 p2
          have c4 := htab.free (i := (placeN d k).1) (placeN d k).2 p2
          have hsq := hsum.setOther ⟨gr (placeN d k).1, (placeN d k).2, none⟩ (.int .u8 (x : Int)) (by simp [Value.ownBlock]; omega)
          have c5 := hsq.cell hs0
          have c6 := hsq.frozenAt (placeN d k).2
          have hsr := hsq.set (placeN d k).2 (.int .u8 ((sumTo d bl k (placeN d k).2 ^^^ bl.getD k 0 : Nat) : Int))
          rw [hset] at hsr
          rw [hxd] at hsr
          rw [add_row] at c5 c6 hsr
          have hto := hput.setOther ⟨sb, (placeN d k).2, none⟩ (.int .u8 ((sumTo d bl k (placeN d k).2 ^^^ x : Nat) : Int)) (by show w.heap.size ≠ sb; omega) (fun i hi => by have := HGS.out i hi; show gr i ≠ sb; omega)
          have hbF := (hbel.setCell (p := ⟨gr (placeN d k).1, (placeN d k).2, none⟩) (by show w.heap.size ≤ gr _; omega) (.int .u8 (x : Int))).setCell (p := ⟨sb, (placeN d k).2, none⟩) (by show w.heap.size ≤ sb; omega) (.int .u8 ((sumTo d bl k (placeN d k).2 ^^^ x : Nat) : Int))
          have hx1 := u8_xor_nat (sumTo d bl k (placeN d k).2) x hs256 hx256
          have HTO := Lib.hid hto
          have HSR := Lib.hid hsr
          have HBF := Lib.hid hbF
          clear hx hxd hb256 p1 hset eput hput hsq hsr hto hbF hs0 htab hsum hbel hgd hge2 hs256
          generalize (placeN d k).1 = disc at *
          generalize (placeN d k).2 = row at *
          generalize sumTo d bl k row ^^^ x = y at *
          generalize sumTo d bl k row = s0 at *
          have i0 : (0 : Int) ≤ (k : Int) := by omega
          have i1 : (k : Int) < 24 := by omega
          have i2 : (0 : Int) ≤ (disc : Int) := by omega
          have i3 : (disc : Int) < (d : Int) := by omega
          have i4 : (0 : Int) ≤ (row : Int) := by omega
          have i5 : (row : Int) < (r : Int) := by omega
          go_wp2_with (go_at_call 46; refine cw.mono ?_; clear cw; rintro e w' ⟨rfl, rfl⟩)
          go_roundw
          case rel => exact ⟨k + 1, by omega, by go_num, HTO.out, HSR.out, HBF.out⟩
          case measure => simp [intOf] <;> omega
        · obtain rfl : k = 24 := by omega
          have HTAB := Lib.hid htab
          have HSUM := Lib.hid hsum
          have HBEL := Lib.hid hbel
          clear htab hsum hbel hk hlt
          go_wp2
          go_loopw [15] (fun iv wr => ∃ k : Nat, k ≤ r ∧ iv = .int .i64 (k : Int) ∧ TabO wr w.heap.size r d d gr (chkTo d bl k) ∧ Own wr sb 5 (.slice (some ⟨sb, 0, none⟩) r r) (vn .u8 ((List.range r).map (sumTo d bl 24))) ∧ Below w.heap.size w wr) (fun iv _ => r - (intOf iv).toNat)
          case atStart => exact ⟨0, by omega, rfl, HTAB.out, HSUM.out, HBEL.out⟩
          case round =>
            obtain ⟨k, hk, rfl, htab, hsum, hbel⟩ := hrel
            clear HTAB HSUM HBEL
            obtain ⟨wq, rfl⟩ : ∃ x, x = wr := ⟨_, rfl⟩
            by_cases hlt : k < r
            · obtain ⟨cz, cd⟩ := checkN_is h3 h6 (row := k) (by omega)
              have echk : chkTo d bl (k + 1) = setD (chkTo d bl k) (checkN d k) k (sumTo d bl 24 k) := rfl
              obtain ⟨q, hq⟩ : ∃ q, checkN d k = q := ⟨_, rfl⟩
              rw [hq] at cz cd echk
              unfold checkD at cz
              have m1 : 0 ≤ (k : Int) % (d : Int) := Int.emod_nonneg _ (by omega)
              have m2 : (k : Int) % (d : Int) < (d : Int) := Int.emod_lt_of_pos _ (by omega)
              have c2 := htab.rowAt (i := q) cd cd
              have c3 := htab.cellAt (i := q) (j := k) hlt cd
              have c4 := htab.free (i := q) k cd
              have hs0 : ((vn .u8 ((List.range r).map (sumTo d bl 24)))[k]? = some (.int .u8 ((sumTo d bl 24 k : Nat) : Int))) := by
                unfold vn; rw [List.getElem?_map, List.getElem?_map, List.getElem?_range hlt]; rfl
              have c5 := hsum.cell hs0
              rw [add_row] at c5
              have hgd := HGS.out _ cd
              have hge2 := hge.out _ cd
              have hput := htab.put (i := q) (j := k) (sumTo d bl 24 k) hlt cd
              rw [← echk] at hput
              have hsq := hsum.setOther ⟨gr q, k, none⟩ (.int .u8 ((sumTo d bl 24 k : Nat) : Int)) (by simp [Value.ownBlock]; omega)
              have hbF := hbel.setCell (p := ⟨gr q, k, none⟩) (by show w.heap.size ≤ gr _; omega) (.int .u8 ((sumTo d bl 24 k : Nat) : Int))
              have HPUT := Lib.hid hput
              have HSQ := Lib.hid hsq
              have HBF := Lib.hid hbF
              have etn : d - 1 - k % d = q := hq
              have c2' : wq.cell? ⟨w.heap.size, d - 1 - k % d, none⟩ = some (.slice (some ⟨gr q, 0, none⟩) r r) := by rw [etn]; exact c2
              clear c2
              have i0 : (0 : Int) ≤ (k : Int) := by omega
              have i1 : (k : Int) < (r : Int) := by omega
              have i2 : (0 : Int) ≤ (d : Int) - 1 - (k : Int) % (d : Int) := by omega
              have i3 : (d : Int) - 1 - (k : Int) % (d : Int) < (d : Int) := by omega
              have hdz : ((d : Int) == 0) = false := by simp; omega
              clear hput hsq hbF echk hs0 htab hsum hbel hgd hge2 cz hq etn
              generalize sumTo d bl 24 k = s0 at *
              go_wp2
              go_region
              go_wp2
              go_roundw
              case rel => exact ⟨k + 1, by omega, by go_num, HPUT.out.drew, HSQ.out.drew, HBF.out.drew⟩
              case measure => simp [intOf] <;> omega
            · obtain rfl : r = k := by omega
              clear hlt hk
              rcases hz with rfl | ⟨x, hx, rfl⟩
              · go_wp2
                go_ret
                exact ⟨w.heap.size, gr, _, rfl, htab, (by unfold Hid; intro a row ha hr2; rw [if_neg (by omega)]), hbel⟩
              · have i0 : (0 : Int) ≤ (x : Int) := by omega
                have i1 : (x : Int) < (d : Int) := by omega
                have c2 := htab.rowAt (i := x) hx hx
                have c4 := htab.colFree x
                have hgl := htab.lt
                have hN := htab.rehang hx (f' := fun a row => if a = x then 0 else chkTo d bl r a row) (w' := wq.alloc (.cells (madeCells #[.int .u8 0] r) 5)) (g := wq.heap.size) (by
                  have := own_made (base := w.heap.size + 1) el_u8S wq r (by unfold maxLen; omega) (by omega)
                  rw [show cellD (fun a row => if a = x then 0 else chkTo d bl r a row) r x = cellD (fun _ _ => 0) r x from cellD_same (fun j _ => if_pos rfl), ← cellD_zero]
                  exact this) ((Below.refl _ _).alloc (Nat.le_refl _) _) (Nat.le_refl _) (fun i j _ hi _ => (if_neg hi).symm)
                have hBN : Below w.heap.size w ((wq.setCell ⟨w.heap.size, x, none⟩ (.slice (some ⟨wq.heap.size, 0, none⟩) r r)).alloc (.cells (madeCells #[.int .u8 0] r) 5)) := by
                  rw [← World.setCell_alloc_past _ _ _ _ hgl]
                  exact (hbel.alloc hbel.size _).setCell (p := ⟨w.heap.size, x, none⟩) (Nat.le_refl _) _
                rw [World.setCell_alloc_past _ _ _ _ hgl] at hN
                have HN := Lib.hid hN
                have HBN := Lib.hid hBN
                clear hN hBN htab hbel hsum
                go_wp2
                go_ret
                exact ⟨w.heap.size, _, _, rfl, HN.out, (by
                  unfold Hid; intro a row ha hr2
                  by_cases e : a = x
                  · subst e; rw [if_pos rfl, if_pos rfl]
                  · rw [if_neg e, if_neg (by omega)]), HBN.out⟩
end Go.Proofs.Ytglcljlafioleaa

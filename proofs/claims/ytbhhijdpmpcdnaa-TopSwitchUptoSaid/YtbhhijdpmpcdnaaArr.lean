/-
  stripe.New, others, set, Read, Write.
-/
import Derived.Test.YtbhhijdpmpcdnaaDisc
import Derived.Test.YtbhhijdpmpcdnaaStripe
import Derived.Test.YtbhhijdpmpcdnaaBit64
set_option linter.unusedVariables false
namespace Go.Proofs.Ytbhhijdpmpcdnaa
open Go.RowKit

theorem u8_xor_nat (a b : Nat) (ha : a < 256) (hb : b < 256) : bits .xor .u8 (a : Int) (b : Int) = ((a ^^^ b : Nat) : Int) := by
  have hx : a ^^^ b < 2 ^ 8 := Nat.xor_lt_two_pow (by omega) (by omega)
  have e : ∀ x : Nat, x < 256 → (BitVec.ofInt 8 (x : Int)).toNat = x := fun x h => by rw [BitVec.toNat_ofInt]; omega
  show IntKind.u8.wrap ((BitVec.ofInt 8 (a : Int) ^^^ BitVec.ofInt 8 (b : Int)).toNat : Int) = _
  rw [BitVec.toNat_xor, e a ha, e b hb]
  have h2 : ∀ n : Nat, n < 256 → IntKind.u8.wrap (n : Int) = (n : Int) := fun n h => by
    show ((n : Int) % 256) = _
    omega
  exact h2 _ (by omega)
theorem el_rowsS : Elem Try.prog 64 33 (.slice none 0 0) 24 := Elem.mk' Try.underlying64 (by kernel_rfl) rfl
theorem el_u8S : Elem Try.prog 33 5 (.int .u8 0) 1 := Elem.mk' Try.underlying33 (by kernel_rfl) rfl
/-- how many rows -/
def rowsD (d : Nat) : Nat := (22 + d) / (d - 1)
theorem rowsD_is {d : Nat} (h3 : 3 ≤ d) (h6 : d ≤ 6) : rowsD d ≤ 12 ∧ 5 ≤ rowsD d ∧ ((24 : Int) + (d : Int) - 2) / ((d : Int) - 1) = ((rowsD d : Nat) : Int) := by
  rcases (by omega : d = 3 ∨ d = 4 ∨ d = 5 ∨ d = 6) with rfl | rfl | rfl | rfl <;> decide
/-- a sum of all discs but one, in a row -/
def xorTo (f : Nat → Nat → Nat) (disc row : Nat) : Nat → Nat
  | 0 => 0
  | k + 1 => if k = disc then xorTo f disc row k else xorTo f disc row k ^^^ f k row
theorem xorTo_lt {f : Nat → Nat → Nat} {disc row : Nat} (hf : ∀ a b, f a b < 256) : ∀ k, xorTo f disc row k < 256
  | 0 => by show 0 < 256; omega
  | k + 1 => by
    rw [xorTo]
    split
    · exact xorTo_lt hf k
    · have h1 := xorTo_lt (disc := disc) (row := row) hf k
      have h2 := hf k row
      exact Nat.xor_lt_two_pow (n := 8) (by omega) (by omega)
set_option maxRecDepth 100000 in
set_option maxHeartbeats 2000000 in
theorem stripe_New (d : Nat) (w : World) (h3 : 3 ≤ d) (h6 : d ≤ 6) :
    Calls Try.prog 14 #[.int .i64 (d : Int)] w (fun e w' => ∃ hb gr, e = .returned (.pointer (some ⟨hb, 0, none⟩)) ∧ TabD w' w.heap.size hb (rowsD d) d d gr (.int .i64 (-1)) (fun _ _ => 0) ∧ Below w.heap.size w w') := by
  obtain ⟨r1, r2, r3⟩ := rowsD_is h3 h6
  generalize rowsD d = r at *
  have hd1 : (((d : Int) - 1) == 0) = false := by simp; omega
  have hwd : IntKind.i64.wrap (d : Int) = (d : Int) := by rw [IntKind.wrap_i64]; omega
  have hwr : IntKind.i64.wrap (r : Int) = (r : Int) := by rw [IntKind.wrap_i64]; omega
  have hmk : ∀ w : World, (Instr.makeSlice 33 (.int .i64 (r : Int)) (.int .i64 (r : Int))).run Try.prog w = .ok (.slice (some ⟨w.heap.size, 0, none⟩) r r) (w.alloc (.cells (madeCells #[.int .u8 0] r) 5)) := fun w => run_make_row' 33 5 (.int .u8 0) 1 Try.underlying33 (by kernel_rfl) rfl .i64 .i64 r (by omega) (by omega) w
  go_enter Try.func14, Try.ntmps14
  go_wp2_with (at_make; refine mkN el_rowsS rfl _ _ rfl w.heap.size d rfl rfl rfl rfl (by omega) (by unfold maxLen; omega) (Nat.le_refl _) ?_; intro w1 ho1 hb1 hs1)
  obtain ⟨b1, hb1e⟩ : ∃ b1, w1.heap.size = b1 := ⟨_, rfl⟩
  have hT0 : TabD (w1.alloc (.cells #[.slice (some ⟨w.heap.size, 0, none⟩) d d, .int .i64 (-1)] 66)) w.heap.size b1 r d 0 (fun _ => 0) (.int .i64 (-1)) (fun _ _ => 0) := by
    subst hb1e
    refine ⟨heap_alloc_new w1 _, ?_, fun i hi => by omega, hs1, fun i j hi => by omega⟩
    rw [← rowD_zero]
    exact ho1.alloc _
  have hB0 : Below w.heap.size w (w1.alloc (.cells #[.slice (some ⟨w.heap.size, 0, none⟩) d d, .int .i64 (-1)] 66)) := hb1.alloc hb1.size _
  rw [hb1e]
  have HT0 := Lib.hid hT0
  have HB0 := Lib.hid hB0
  clear hT0 hB0 ho1 hb1 hs1 r3
  go_loopw [21] (fun iv wr => ∃ (k : Nat) (gr : Nat → Nat), k ≤ d ∧ iv = .int .i64 (k : Int) ∧ TabD wr w.heap.size b1 r d k gr (.int .i64 (-1)) (fun _ _ => 0) ∧ Below w.heap.size w wr) (fun iv _ => d - (intOf iv).toNat)
  case atStart => exact ⟨0, _, Nat.zero_le _, rfl, HT0.out, HB0.out⟩
  case round =>
    obtain ⟨k, gr, hk, rfl, htab, hbel⟩ := hrel
    obtain ⟨wo, rfl⟩ : ∃ x, x = wr := ⟨_, rfl⟩
    by_cases hlt : k < d
    · have h2 := htab.tab
      have i1 : (k : Int) < (d : Int) := by omega
      have i0 : (0 : Int) ≤ (k : Int) := by omega
      have HTAB := Lib.hid htab
      have HBEL := Lib.hid hbel
      have hgc : wo.cell? ⟨w.heap.size, k, none⟩ = some (.slice none 0 0) := by
        have := htab.col.cell (j := k) (u := .slice none 0 0) (by unfold rowD; rw [List.getElem?_map, List.getElem?_range hlt]; simp)
        rwa [add_row] at this
      have hgf := htab.colFree k
      have hgl : w.heap.size < wo.heap.size := (htab.col.lt w.heap.size rfl).2
      have hbl := htab.lt
      clear htab hbel
      go_wp2
      go_region
      go_wp2
      have hN := HTAB.out.hang hlt (w' := wo.alloc (.cells (madeCells #[.int .u8 0] r) 5)) (g := wo.heap.size) (by rw [← cellD_zero]; exact own_made el_u8S wo r (by unfold maxLen; omega) (by omega)) ((Below.refl _ _).alloc (Nat.le_refl _) _) (Nat.le_refl _)
      rw [World.setCell_alloc_past _ _ _ _ hgl] at hN
      have hBN : Below w.heap.size w ((wo.setCell ⟨w.heap.size, k, none⟩ (.slice (some ⟨wo.heap.size, 0, none⟩) r r)).alloc (.cells (madeCells #[.int .u8 0] r) 5)) := by
        rw [← World.setCell_alloc_past _ _ _ _ hgl]
        exact (HBEL.out.alloc HBEL.out.size _).setCell (p := ⟨w.heap.size, k, none⟩) (Nat.le_refl _) _
      go_roundw
      case rel => exact ⟨k + 1, _, by omega, by go_num, hN.drew, hBN.drew⟩
      case measure => simp [intOf] <;> omega
    · obtain rfl : d = k := by omega
      go_wp2
      go_ret
      exact ⟨b1, gr, rfl, htab, hbel⟩
set_option maxHeartbeats 800000 in
theorem stripe_others (b0 hb r d disc row : Nat) (gr : Nat → Nat) (V : Value) (f : Nat → Nat → Nat) (w : World) (h : TabD w b0 hb r d d gr V f) (hf : Hid (∀ a b, f a b < 256)) (hd : d ≤ 6) (hdisc : disc < d) (hrow : row < r) :
    Calls Try.prog 35 #[.pointer (some ⟨hb, 0, none⟩), .int .i64 (disc : Int), .int .i64 (row : Int)] w (Ret w (.int .u8 (xorTo f disc row d : Int))) := by
  have c0 := h.tab
  have HT := Lib.hid h
  have z0 : (0 : Int) ≤ (row : Int) := by omega
  have z1 : (row : Int) < (r : Int) := by omega
  clear h
  go_enter Try.func35, Try.ntmps35
  go_wp2
  go_loop [7, 15] (fun s i => ∃ k : Nat, k ≤ d ∧ i = .int .i64 (k : Int) ∧ s = .int .u8 (xorTo f disc row k : Int)) (fun _ i => d - (intOf i).toNat)
  case atStart => exact ⟨0, Nat.zero_le _, rfl, rfl⟩
  case round =>
    obtain ⟨k, hk, rfl, rfl⟩ := hrel
    by_cases hlt : k < d
    · have c1 := HT.out.rowAt (i := k) hlt hlt
      have i0 : (0 : Int) ≤ (k : Int) := by omega
      have i1 : (k : Int) < (d : Int) := by omega
      by_cases e : k = disc
      · have HX : Hid (xorTo f disc row (k + 1) = xorTo f disc row k) := by unfold Hid; rw [xorTo, if_pos e]
        have t0 : ((k : Int) != (disc : Int)) = false := by simp; omega
        clear e
        go_wp2
        go_round
        case rel => exact ⟨k + 1, by omega, by go_num, by rw [HX.out]⟩
        case measure => simp [intOf] <;> omega
      · have HX : Hid (xorTo f disc row (k + 1) = xorTo f disc row k ^^^ f k row) := by unfold Hid; rw [xorTo, if_neg e]
        have t0 : ((k : Int) != (disc : Int)) = true := by simp; omega
        have c2 := HT.out.cellAt (i := k) (j := row) hrow hlt
        have hx := u8_xor_nat (xorTo f disc row k) (f k row) (xorTo_lt hf.out k) (hf.out _ _)
        rw [← HX.out] at hx
        obtain ⟨q1, hq1⟩ : ∃ q1, xorTo f disc row (k + 1) = q1 := ⟨_, rfl⟩
        have HQ := Lib.hid hq1
        rw [hq1] at hx
        clear e hq1 HX
        generalize xorTo f disc row k = q0 at *
        go_wp2
        go_round
        case rel => exact ⟨k + 1, by omega, by go_num, by rw [HQ.out]⟩
        case measure => simp [intOf] <;> omega
    · obtain rfl : d = k := by omega
      go_wp2
      go_ret
      exact ⟨rfl, rfl⟩
def setL (f : Nat → Nat → Nat) (z : Int) (disc row b : Nat) : Nat → Nat → Nat := if (disc : Int) = z then f else setD f disc row b
/-- only the discs' blocks have changed -/
structure OnlyIn (w w' : World) (d : Nat) (gr : Nat → Nat) : Prop where
  os : w'.os = w.os
  tape : w'.tape = w.tape
  output : w'.output = w.output
  size : w.heap.size ≤ w'.heap.size
  block : ∀ b, b < w.heap.size → (∀ i, i < d → gr i ≠ b) → w'.heap[b]? = w.heap[b]?
theorem OnlyIn.refl (w : World) (d : Nat) (gr : Nat → Nat) : OnlyIn w w d gr := ⟨rfl, rfl, rfl, Nat.le_refl _, fun _ _ _ => rfl⟩
theorem OnlyIn.trans {w w' w'' : World} {d : Nat} {gr : Nat → Nat} (h : OnlyIn w w' d gr) (h' : OnlyIn w' w'' d gr) : OnlyIn w w'' d gr :=
  ⟨h'.os.trans h.os, h'.tape.trans h.tape, h'.output.trans h.output, Nat.le_trans h.size h'.size, fun b hb hn => (h'.block b (Nat.lt_of_lt_of_le hb h.size) hn).trans (h.block b hb hn)⟩
theorem OnlyIn.set (w : World) {d i : Nat} {gr : Nat → Nat} (hi : i < d) (j : Nat) (v : Value) : OnlyIn w (w.setCell ⟨gr i, j, none⟩ v) d gr :=
  ⟨rfl, rfl, rfl, by simp, fun b _ hn => Below.heap_setCell _ _ _ b (fun e => hn i hi (by rw [e]))⟩
theorem OnlyIn.drew {w w' : World} {d : Nat} {gr : Nat → Nat} (h : OnlyIn w w' d gr) : OnlyIn w w'.drew d gr := ⟨h.os, h.tape, h.output, h.size, h.block⟩
theorem OnlyIn.drewN {w w' : World} {d : Nat} {gr : Nat → Nat} (h : OnlyIn w w' d gr) (q : Nat) : OnlyIn w (w'.drewN q) d gr := ⟨h.os, h.tape, h.output, h.size, h.block⟩
set_option maxHeartbeats 800000 in
theorem stripe_set (b0 hb r d disc row b : Nat) (z : Int) (gr : Nat → Nat) (f : Nat → Nat → Nat) (w : World) (h : TabD w b0 hb r d d gr (.int .i64 z) f) (hd : d ≤ 6) (hdisc : disc < d) (hrow : row < r) :
    Calls Try.prog 34 #[.pointer (some ⟨hb, 0, none⟩), .int .i64 (disc : Int), .int .i64 (row : Int), .int .u8 (b : Int)] w (fun e w' => e = .returned (.tuple #[]) ∧ TabD w' b0 hb r d d gr (.int .i64 z) (setL f z disc row b) ∧ OnlyIn w w' d gr) := by
  have c0 := h.tab
  have c1 := h.lost
  have c2 := h.rowAt (i := disc) hdisc hdisc
  have c3 := h.cellAt (i := disc) (j := row) hrow hdisc
  have c4 := h.free (i := disc) row hdisc
  have HT := Lib.hid h
  have HP := Lib.hid (h.put (i := disc) (j := row) b hrow hdisc)
  have z0 : (0 : Int) ≤ (row : Int) := by omega
  have z1 : (row : Int) < (r : Int) := by omega
  have z2 : (0 : Int) ≤ (disc : Int) := by omega
  have z3 : (disc : Int) < (d : Int) := by omega
  clear h
  by_cases e : (disc : Int) = z
  · have HS : Hid (setL f z disc row b = f) := by unfold Hid setL; rw [if_pos e]
    have t0 : ((disc : Int) != z) = false := by simp [e]
    rw [HS.out]
    clear e
    go_enter Try.func34, Try.ntmps34
    go_wp2
    (try simp only [Exit.inBlock, Exit.then])
    refine bodyPost_end (results_none rfl _ _ _) rfl ?_
    exact ⟨rfl, HT.out, OnlyIn.refl _ _ _⟩
  · have HS : Hid (setL f z disc row b = setD f disc row b) := by unfold Hid setL; rw [if_neg e]
    have t0 : ((disc : Int) != z) = true := by simpa using e
    rw [HS.out]
    clear e
    go_enter Try.func34, Try.ntmps34
    go_wp2
    (try simp only [Exit.inBlock, Exit.then])
    refine bodyPost_end (results_none rfl _ _ _) rfl ?_
    exact ⟨rfl, HP.out, OnlyIn.set w hdisc _ _⟩
def placeN (d b : Nat) : Nat × Nat := (if d - 1 - (b / (d - 1)) % d ≤ b % (d - 1) then b % (d - 1) + 1 else b % (d - 1), b / (d - 1))
theorem placeN_all : ∀ (d : Fin 4) (b : Fin 24), placeD ((d.val + 3 : Nat) : Int) ((b.val : Nat) : Int) = (((placeN (d.val + 3) b.val).1 : Int), ((placeN (d.val + 3) b.val).2 : Int)) ∧ (placeN (d.val + 3) b.val).1 < d.val + 3 ∧ (placeN (d.val + 3) b.val).2 < rowsD (d.val + 3) := by decide
theorem placeN_is {d b : Nat} (h3 : 3 ≤ d) (h6 : d ≤ 6) (hb : b < 24) : placeD (d : Int) (b : Int) = (((placeN d b).1 : Int), ((placeN d b).2 : Int)) ∧ (placeN d b).1 < d ∧ (placeN d b).2 < rowsD d := by
  have := placeN_all ⟨d - 3, by omega⟩ ⟨b, hb⟩
  simp only [show d - 3 + 3 = d by omega] at this
  exact this
def readD (f : Nat → Nat → Nat) (z : Int) (d b : Nat) : Nat := if ((placeN d b).1 : Int) = z then xorTo f (placeN d b).1 (placeN d b).2 d else f (placeN d b).1 (placeN d b).2
set_option maxHeartbeats 800000 in
theorem stripe_Read (b0 hb d b : Nat) (z : Int) (gr : Nat → Nat) (f : Nat → Nat → Nat) (w : World) (h : TabD w b0 hb (rowsD d) d d gr (.int .i64 z) f) (hf : Hid (∀ a b, f a b < 256)) (h3 : 3 ≤ d) (h6 : d ≤ 6) (hb24 : b < 24) :
    Calls Try.prog 29 #[.pointer (some ⟨hb, 0, none⟩), .int .i64 (b : Int)] w (Ret w (.int .u8 (readD f z d b : Int))) := by
  obtain ⟨p1, p2, p3⟩ := placeN_is h3 h6 hb24
  have cp := stripe_place (d : Int) (b : Int) _ _ w (by omega) (by omega) (by omega) (by omega) p1
  have hR : readD f z d b = if ((placeN d b).1 : Int) = z then xorTo f (placeN d b).1 (placeN d b).2 d else f (placeN d b).1 (placeN d b).2 := rfl
  generalize (placeN d b).1 = disc at *
  generalize (placeN d b).2 = row at *
  have c0 := h.tab
  have c1 := h.lost
  have c2 := h.rowAt (i := disc) p2 p2
  have c3 := h.cellAt (i := disc) (j := row) p3 p2
  have co := stripe_others b0 hb (rowsD d) d disc row gr (.int .i64 z) f w h hf h6 p2 p3
  have HR := Lib.hid hR
  generalize rowsD d = r at *
  have z0 : (0 : Int) ≤ (row : Int) := by omega
  have z1 : (row : Int) < (r : Int) := by omega
  have z2 : (0 : Int) ≤ (disc : Int) := by omega
  have z3 : (disc : Int) < (d : Int) := by omega
  clear h hR p1
  rw [HR.out]
  by_cases e : (disc : Int) = z
  · rw [if_pos e]
    have t0 : ((disc : Int) == z) = true := by simpa using e
    clear e
    go_enter Try.func29, Try.ntmps29
    go_wp2_with (first
      | (go_at_call 19; refine cp.mono ?_; rintro e w' ⟨rfl, rfl⟩)
      | (go_at_call 35; refine co.mono ?_; rintro e w' ⟨rfl, rfl⟩))
    go_ret
    exact ⟨rfl, rfl⟩
  · rw [if_neg e]
    have t0 : ((disc : Int) == z) = false := by simpa using e
    clear e
    go_enter Try.func29, Try.ntmps29
    go_wp2_with (go_at_call 19; refine cp.mono ?_; rintro e w' ⟨rfl, rfl⟩)
    go_ret
    exact ⟨rfl, rfl⟩
end Go.Proofs.Ytbhhijdpmpcdnaa

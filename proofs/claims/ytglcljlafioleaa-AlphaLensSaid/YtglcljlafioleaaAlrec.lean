/-
  alpha.reckon: the table of the best costs.
-/
import Derived.Test.YtglcljlafioleaaAltab
import Derived.StillTailTactics
import Derived.Deep.RegionHeld3
set_option linter.unusedVariables false
namespace Go.Proofs.Ytglcljlafioleaa
open Go.RowKit

theorem el_rowsA : Elem Try.prog 72 34 (.slice none 0 0) 24 := Elem.mk' Try.underlying72 (by kernel_rfl) rfl
theorem el_i64A : Elem Try.prog 34 2 (.int .i64 0) 8 := Elem.mk' Try.underlying34 (by kernel_rfl) rfl
def fT (ws : List Nat) (n size i0 : Nat) (a b : Nat) : Nat := if b ≤ n ∧ (b - a < size ∨ (b - a = size ∧ a < i0)) then bestC (segL ws a b) else 0
theorem fT_start (ws : List Nat) (n : Nat) (h : n ≤ 8) : (fun _ _ => 0) = fT ws n 2 0 := by
  funext a b
  unfold fT
  split
  · rename_i h1
    have hl : (segL ws a b).length ≤ 1 := by
      unfold segL
      have := List.length_take_le (b - a) (ws.drop a)
      omega
    exact (best_small hl).1.symm
  · rfl
theorem fT_row (ws : List Nat) (n size i0 : Nat) (h : size + i0 ≤ n) (h0 : 0 < size) : setF (fT ws n size i0) i0 (i0 + size) (bestC (segL ws i0 (i0 + size))) = fT ws n size (i0 + 1) := by
  funext a b
  unfold setF fT
  by_cases e : a = i0 ∧ b = i0 + size
  · obtain ⟨rfl, rfl⟩ := e
    rw [if_pos ⟨rfl, rfl⟩, if_pos ⟨by omega, by omega⟩]
  · rw [if_neg e]
    by_cases h1 : b ≤ n ∧ (b - a < size ∨ (b - a = size ∧ a < i0))
    · rw [if_pos h1, if_pos ⟨h1.1, by omega⟩]
    · rw [if_neg h1, if_neg]
      intro h2
      apply h1
      refine ⟨h2.1, ?_⟩
      rcases h2.2 with h3 | ⟨h3, h4⟩
      · exact .inl h3
      · rcases Nat.lt_or_ge b a with h5 | h5
        · left; omega
        · right; exact ⟨h3, by omega⟩
theorem fT_size (ws : List Nat) (n size i0 : Nat) (h : n < size + i0) (h0 : 0 < size) : fT ws n size i0 = fT ws n (size + 1) 0 := by
  funext a b
  unfold fT
  by_cases h1 : b ≤ n ∧ (b - a < size ∨ (b - a = size ∧ a < i0))
  · rw [if_pos h1, if_pos ⟨h1.1, by omega⟩]
  · rw [if_neg h1, if_neg]
    intro h2
    apply h1
    refine ⟨h2.1, ?_⟩
    omega
theorem fT_done {ws : List Nat} {n size : Nat} (h : n < size) (a b : Nat) (hb : b ≤ n) : fT ws n size 0 a b = bestC (segL ws a b) := by
  unfold fT
  rw [if_pos ⟨hb, by omega⟩]
theorem fT_below {ws : List Nat} {n size i0 : Nat} (a b : Nat) (hb : b ≤ n) (h : b - a < size) : fT ws n size i0 a b = bestC (segL ws a b) := by
  unfold fT
  rw [if_pos ⟨hb, by omega⟩]
def StLe : Option Nat → Value → Prop
  | none, v => v = .int .i64 (-1)
  | some m, v => v = .int .i64 (m : Int)
/-- what alpha.reckon returns -/
def RetRec (w : World) (V : Value) (ws : List Nat) (n : Nat) (e : Ending) (w' : World) : Prop :=
  ∃ hb gr f, e = .returned (.pointer (some ⟨hb, 0, none⟩)) ∧ TabK w' w.heap.size hb (n + 1) (n + 1) gr V f ∧ Below w.heap.size w w' ∧ Hid (∀ a b, b ≤ n → f a b = bestC (segL ws a b))
set_option maxRecDepth 100000 in
set_option maxHeartbeats 4000000 in
theorem alpha_reckon (A : Option Addr) (n c : Nat) (ws : List Nat) (w : World) (h : Reads w w.heap.size A n (vn .i64 ws)) (hn : n ≤ 8) (hcap : n ≤ c) (hw : ∀ x ∈ ws, x ≤ 1048576) :
    Calls Try.prog 31 #[.slice A n c] w (RetRec w (.slice A n c) ws n) := by
  have H := Lib.hid h.nat_len
  have HW := Lib.hid hw
  have HR := Lib.hid h
  obtain ⟨m, hm⟩ : ∃ m, m = n + 1 := ⟨_, rfl⟩
  have e1 : (n : Int) + 1 = (m : Int) := by omega
  have ew : IntKind.i64.wrap ((n : Int) + 1) = (m : Int) := by rw [IntKind.wrap_i64]; omega
  have hwr : IntKind.i64.wrap (m : Int) = (m : Int) := by rw [IntKind.wrap_i64]; omega
  have hm9 : m ≤ 9 := by omega
  have hm1 : 1 ≤ m := by omega
  have HM := Lib.hid hm
  have hmk : ∀ w : World, (Instr.makeSlice 34 (.int .i64 (m : Int)) (.int .i64 (m : Int))).run Try.prog w = .ok (.slice (some ⟨w.heap.size, 0, none⟩) m m) (w.alloc (.cells (madeCells #[.int .i64 0] m) 2)) := fun w => run_make_row' 34 2 (.int .i64 0) 8 Try.underlying34 (by kernel_rfl) rfl .i64 .i64 m (by omega) (by omega) w
  clear hw h hm e1
  go_enter Try.func31, Try.ntmps31
  go_wp2_with (at_make; refine mkN el_rowsA rfl _ _ rfl w.heap.size m rfl rfl (by first | rfl | exact ew | (go_simp; exact ew) | fail) (by first | rfl | exact ew | (go_simp; exact ew) | fail) (by omega) (by unfold maxLen; omega) (Nat.le_refl _) ?_; intro w1 ho1 hb1 hs1)
  obtain ⟨b1, hb1e⟩ : ∃ b1, w1.heap.size = b1 := ⟨_, rfl⟩
  have hT0 : TabK (w1.alloc (.cells #[.slice A n c, .slice (some ⟨w.heap.size, 0, none⟩) m m] 74)) w.heap.size b1 m 0 (fun _ => 0) (.slice A n c) (fun _ _ => 0) := by
    subst hb1e
    refine ⟨heap_alloc_new w1 _, ?_, fun i hi => by omega, hs1, fun i j hi => by omega⟩
    rw [← rowV_zero]
    exact ho1.alloc _
  have hB0 : Below w.heap.size w (w1.alloc (.cells #[.slice A n c, .slice (some ⟨w.heap.size, 0, none⟩) m m] 74)) := hb1.alloc hb1.size _
  rw [hb1e]
  have HT0 := Lib.hid hT0
  have HB0 := Lib.hid hB0
  clear hT0 hB0 ho1 hb1 hs1
  go_loopw [25] (fun iv wr => ∃ (k : Nat) (gr : Nat → Nat), k ≤ m ∧ iv = .int .i64 (k : Int) ∧ TabK wr w.heap.size b1 m k gr (.slice A n c) (fun _ _ => 0) ∧ Below w.heap.size w wr) (fun iv _ => m - (intOf iv).toNat)
  case atStart => exact ⟨0, _, Nat.zero_le _, rfl, HT0.out, HB0.out⟩
  case round =>
    obtain ⟨k, gr, hk, rfl, htab, hbel⟩ := hrel
    obtain ⟨wo, rfl⟩ : ∃ x, x = wr := ⟨_, rfl⟩
    by_cases hlt : k < m
    · have h2 := htab.tab
      have i1 : (k : Int) < (m : Int) := by omega
      have i0 : (0 : Int) ≤ (k : Int) := by omega
      have HTAB := Lib.hid htab
      have HBEL := Lib.hid hbel
      have hgc : wo.cell? ⟨w.heap.size, k, none⟩ = some (.slice none 0 0) := by
        have := htab.col.cell (j := k) (u := .slice none 0 0) (by unfold rowV; rw [List.getElem?_map, List.getElem?_range hlt]; simp)
        rwa [add_row] at this
      have hgf := htab.colFree k
      have hgl : w.heap.size < wo.heap.size := (htab.col.lt w.heap.size rfl).2
      have hbl := htab.lt
      clear htab hbel
      go_wp2
      go_region
      go_wp2
      have hN := HTAB.out.hang hlt (w' := wo.alloc (.cells (madeCells #[.int .i64 0] m) 2)) (g := wo.heap.size) (by rw [← cellV_zero]; exact own_made el_i64A wo m (by unfold maxLen; omega) (by omega)) ((Below.refl _ _).alloc (Nat.le_refl _) _) (Nat.le_refl _)
      rw [World.setCell_alloc_past _ _ _ _ hgl] at hN
      have hBN : Below w.heap.size w ((wo.setCell ⟨w.heap.size, k, none⟩ (.slice (some ⟨wo.heap.size, 0, none⟩) m m)).alloc (.cells (madeCells #[.int .i64 0] m) 2)) := by
        rw [← World.setCell_alloc_past _ _ _ _ hgl]
        exact (HBEL.out.alloc HBEL.out.size _).setCell (p := ⟨w.heap.size, k, none⟩) (Nat.le_refl _) _
      go_roundw
      case rel => exact ⟨k + 1, _, by omega, by go_num, hN.drew, hBN.drew⟩
      case measure => simp [intOf] <;> omega
    · obtain rfl : m = k := by omega
      rw [fT_start ws n hn] at htab
      have HTAB := Lib.hid htab
      have HBEL := Lib.hid hbel
      clear htab hbel HT0 HB0 hb1e
      go_wp2
      go_loopw [6] (fun sv wr => ∃ size : Nat, 2 ≤ size ∧ size ≤ n + 2 ∧ sv = .int .i64 (size : Int) ∧ TabK wr w.heap.size b1 m m gr (.slice A n c) (fT ws n size 0) ∧ Below w.heap.size w wr) (fun sv _ => n + 1 - (intOf sv).toNat)
      case atStart => exact ⟨2, Nat.le_refl _, by omega, rfl, HTAB.out, HBEL.out⟩
      case round =>
        obtain ⟨size, hs2, hsn, rfl, htab, hbel⟩ := hrel
        clear HTAB HBEL hlt hk
        obtain ⟨wa, rfl⟩ : ∃ x, x = wr := ⟨_, rfl⟩
        have HTAB := Lib.hid htab
        have HBEL := Lib.hid hbel
        clear htab hbel
        by_cases hlt : size ≤ n
        · have s1 : (size : Int) ≤ (n : Int) := by omega
          go_wp2
          go_loopw [7] (fun iv wr => ∃ i0 : Nat, i0 + size ≤ n + 1 ∧ iv = .int .i64 (i0 : Int) ∧ TabK wr w.heap.size b1 m m gr (.slice A n c) (fT ws n size i0) ∧ Below w.heap.size w wr) (fun iv _ => n + 1 - (intOf iv).toNat)
          case atStart => exact ⟨0, by omega, rfl, HTAB.out, HBEL.out⟩
          case round =>
            obtain ⟨i0, hi0, rfl, htab, hbel⟩ := hrel
            clear HTAB HBEL
            obtain ⟨wb, rfl⟩ : ∃ x, x = wr := ⟨_, rfl⟩
            have HTAB := Lib.hid htab
            have HBEL := Lib.hid hbel
            clear htab hbel
            by_cases hlt2 : i0 + size ≤ n
            · obtain ⟨j, hj⟩ : ∃ j, j = i0 + size := ⟨_, rfl⟩
              have ej : IntKind.i64.wrap ((i0 : Int) + (size : Int)) = (j : Int) := by rw [IntKind.wrap_i64]; omega
              have HJ := Lib.hid hj
              have hj2 : i0 + 2 ≤ j := by omega
              have hjn : j ≤ n := by omega
              have hjI : (j : Int) ≤ (n : Int) := by omega
              obtain ⟨seg, hseg⟩ : ∃ seg, segL ws i0 j = seg := ⟨_, rfl⟩
              have HSEG := Lib.hid hseg
              have hsl : seg.length = size := by rw [← hseg, segL_len (by rw [H.out]; exact hjn) (by omega)]; omega
              have HSL := Lib.hid hsl
              have hs8 : size ≤ 8 := by omega
              clear hj hseg hsl
              go_wp2
              go_loopw [9, 10] (fun lv kv wr => ∃ k q : Nat, k + 1 ≤ size ∧ kv = .int .i64 ((i0 + 1 + k : Nat) : Int) ∧ StLe (leastK (cutC seg) k) lv ∧ wr = wb.drewN q) (fun _ kv _ => n + 1 - (intOf kv).toNat)
              case atStart => exact ⟨0, 0, by omega, by go_num, rfl, rfl⟩
              case round =>
                obtain ⟨k, q, hk, rfl, hst, rfl⟩ := hrel
                by_cases hlt3 : k + 1 < size
                · obtain ⟨kk, hkk⟩ : ∃ kk, kk = i0 + 1 + k := ⟨_, rfl⟩
                  rw [← hkk]
                  have hk1 : i0 < kk := by omega
                  have hk2 : kk < j := by have := HJ.out; omega
                  have ekI : IntKind.i64.wrap ((kk : Int) + 1) = ((i0 + 1 + (k + 1) : Nat) : Int) := by rw [IntKind.wrap_i64]; omega
                  have hk2I : (kk : Int) < (j : Int) := by omega
                  have t1 := HTAB.out
                  have hmn := HM.out
                  have c1 := t1.tab
                  have c2 := t1.rowAt (i := i0) (by omega) (by omega)
                  have c3 := t1.cellAt (i := i0) (j := kk) (by omega) (by omega)
                  have c4 := t1.rowAt (i := kk) (by omega) (by omega)
                  have c5 := t1.cellAt (i := kk) (j := j) (by omega) (by omega)
                  have hjs := HJ.out
                  rw [fT_below _ _ (by omega) (by omega)] at c3 c5
                  have hb8 := fun a b (hb : b ≤ n) => bestC_le (ws := segL ws a b) (by
                    unfold segL
                    have h1 := List.length_take_le (b - a) (ws.drop a)
                    have h2 := List.length_drop (i := a) (l := ws)
                    have h3 := List.length_take (i := b - a) (l := ws.drop a)
                    have := H.out
                    omega) (fun x hx => HW.out x (segL_mem hx))
                  have hx8 := hb8 i0 kk (by omega)
                  have hy8 := hb8 kk j (by omega)
                  have hcut : cutC seg (k + 1) = bestC (segL ws i0 kk) + bestC (segL ws kk j) := by
                    unfold cutC
                    rw [← HSEG.out, ← segL_take (ws := ws) (i := i0) (j := j) (k := kk) (by omega) (by omega), ← segL_drop (ws := ws) (i := i0) (j := j) (k := kk) (by omega) (by omega), show kk - i0 = k + 1 by omega]
                  have hle : leastK (cutC seg) (k + 1) = match leastK (cutC seg) k with
                    | none => some (cutC seg (k + 1))
                    | some m => if cutC seg (k + 1) < m then some (cutC seg (k + 1)) else some m := rfl
                  rw [hcut] at hle
                  generalize bestC (segL ws i0 kk) = x at *
                  generalize bestC (segL ws kk j) = y at *
                  have HLE := Lib.hid hle
                  have HKK := Lib.hid hkk
                  have z1 : (0 : Int) ≤ (i0 : Int) := by omega
                  have z2 : (i0 : Int) < (m : Int) := by omega
                  have z3 : (0 : Int) ≤ (kk : Int) := by omega
                  have z4 : (kk : Int) < (m : Int) := by omega
                  have z5 : (0 : Int) ≤ (j : Int) := by omega
                  have z6 : (j : Int) < (m : Int) := by omega
                  clear t1 hmn hjs hb8 hcut hle hkk
                  cases hlk : leastK (cutC seg) k with
                  | none =>
                    rw [hlk] at hst HLE
                    have hst : u9 = .int .i64 (-1) := hst
                    subst hst
                    go_wp2
                    go_quiet (fail)
                    go_wp2
                    go_roundw
                    case rel => exact ⟨k + 1, q + nq, by omega, by first | rfl | go_num, by rw [HLE.out]; show _ = _; go_num, by first | rfl | rw [World.drewN_drewN]⟩
                    case measure => have := HKK.out; simp [intOf] <;> omega
                  | some mm =>
                    rw [hlk] at hst HLE
                    have hst : u9 = .int .i64 (mm : Int) := hst
                    subst hst
                    have z7 : ¬ (mm : Int) < 0 := by omega
                    by_cases hcm : x + y < mm
                    · have HC : Hid (leastK (cutC seg) (k + 1) = some (x + y)) := by unfold Hid; rw [HLE.out]; exact if_pos hcm
                      have z8 : (x : Int) + (y : Int) < (mm : Int) := by omega
                      go_wp2
                      go_quiet (fail)
                      go_wp2
                      go_roundw
                      case rel => exact ⟨k + 1, q + nq, by omega, by first | rfl | go_num, by rw [HC.out]; show _ = _; go_num, by first | rfl | rw [World.drewN_drewN]⟩
                      case measure => have := HKK.out; simp [intOf] <;> omega
                    · have HC : Hid (leastK (cutC seg) (k + 1) = some mm) := by unfold Hid; rw [HLE.out]; exact if_neg hcm
                      have z8 : ¬ (x : Int) + (y : Int) < (mm : Int) := by omega
                      go_wp2
                      go_quiet (fail)
                      go_wp2
                      go_roundw
                      case rel => exact ⟨k + 1, q + nq, by omega, by first | rfl | go_num, by rw [HC.out]; rfl, by first | rfl | rw [World.drewN_drewN]⟩
                      case measure => have := HKK.out; simp [intOf] <;> omega
                · obtain ⟨wq, hwq⟩ : ∃ x, x = wb.drewN q := ⟨_, rfl⟩
                  have hbq := below_drewN HBEL.out q
                  rw [← hwq] at hbq ⊢
                  obtain ⟨k2, hk2⟩ : ∃ k2, size = k2 + 2 := ⟨size - 2, by omega⟩
                  obtain rfl : k = k2 + 1 := by omega
                  have e3 : IntKind.i64.wrap ((i0 : Int) + 1 + ((k2 : Int) + 1)) = (j : Int) := by have := HJ.out; rw [IntKind.wrap_i64]; omega
                  have e4 : ((i0 + 1 + (k2 + 1) : Nat) : Int) = (j : Int) := by have := HJ.out; omega
                  obtain ⟨mm, hmm, hbest⟩ := least_best (ws := seg) (n := k2) (by rw [HSL.out]; exact hk2) (by omega)
                  rw [hmm] at hst
                  have hst : u9 = .int .i64 (mm : Int) := hst
                  subst hst
                  rw [e4]
                  have hb67 : bestC seg ≤ 67108864 := bestC_le (by rw [HSL.out]; exact hs8) (fun x hx => HW.out x (by rw [← HSEG.out] at hx; exact segL_mem hx))
                  have hsum : Hid (sumL (segL ws i0 j) = sumL seg) := by unfold Hid; rw [HSEG.out]
                  generalize hS : sumL seg = S at *
                  have hmS : IntKind.i64.wrap ((mm : Int) + (S : Int)) = ((bestC seg : Nat) : Int) := by rw [IntKind.wrap_i64]; omega
                  have hmn := HM.out
                  have t1 := HTAB.out.drewN q
                  rw [← hwq] at t1
                  have c1 := t1.tab
                  have c0 := t1.wts
                  have c2 := t1.rowAt (i := i0) (by omega) (by omega)
                  have c3 := t1.cellAt (i := i0) (j := j) (by omega) (by omega)
                  have c4 := t1.free (i := i0) j (by omega)
                  have hge := t1.ge (i := i0) (by omega)
                  have cs := alpha_sum b1 i0 j n c A ws S wq.drew ((HR.out.below hbq).drew) hn hcap (by omega) hjn HW.out c0 hsum
                  have hput := t1.put (i := i0) (j := j) (bestC seg) (by omega) (by omega)
                  rw [show bestC seg = bestC (segL ws i0 (i0 + size)) by rw [← HJ.out, HSEG.out], show setF (fT ws n size i0) i0 j (bestC (segL ws i0 (i0 + size))) = fT ws n size (i0 + 1) by rw [HJ.out]; exact fT_row ws n size i0 (by omega) (by omega)] at hput
                  rw [show bestC (segL ws i0 (i0 + size)) = bestC seg by rw [← HJ.out, HSEG.out]] at hput
                  have hbput : Below w.heap.size w (wq.setCell ⟨gr i0, j, none⟩ (.int .i64 ((bestC seg : Nat) : Int))) := hbq.setCell (p := ⟨gr i0, j, none⟩) (by have := t1.ord; show w.heap.size ≤ gr i0; omega) _
                  have HPUT := Lib.hid hput
                  have HBPUT := Lib.hid hbput
                  have z1 : (0 : Int) ≤ (i0 : Int) := by omega
                  have z2 : (i0 : Int) < (m : Int) := by omega
                  have z5 : (0 : Int) ≤ (j : Int) := by omega
                  have z6 : (j : Int) < (m : Int) := by omega
                  clear hmn hbq t1 hge hwq hput hbput hsum hmm hbest e4 hS hk2 hlt3 hk
                  generalize bestC seg = bs at *
                  go_wp2
                  go_still_tail 15, (by kernel_rfl)
                  still_call (show Calls Try.prog 49 _ wq.drew (fun e w'' => e = Ending.returned (.int .i64 (S : Int)) ∧ w'' = wq.drew) from cs.mono fun e w3 hh => by obtain ⟨h1, h2⟩ := hh; exact ⟨by first | exact h1 | exact h2, by first | exact h2 | exact h2.symm | exact h1⟩)
                  repeat still_step
                  refine wpStill_nil ?_
                  go_wp2
                  go_roundw
                  case rel => exact ⟨i0 + 1, by omega, by go_num, HPUT.out.drew, HBPUT.out.drew⟩
                  case measure => simp [intOf] <;> omega
            · have hsz : n < size + i0 := by omega
              have hup := HTAB.out
              rw [fT_size ws n size i0 hsz (by omega)] at hup
              have HUP := Lib.hid hup
              have e5 : ¬ (i0 : Int) + (size : Int) ≤ (n : Int) := by omega
              clear hup
              go_wp2
              go_roundw
              case rel => exact ⟨size + 1, by omega, by omega, by go_num, HUP.out, HBEL.out⟩
              case measure => simp [intOf] <;> omega
        · have s1 : ¬ (size : Int) ≤ (n : Int) := by omega
          go_wp2
          go_ret
          have hm := HM.out
          subst hm
          exact ⟨b1, gr, _, rfl, HTAB.out, HBEL.out, fun a b hb => fT_done (by omega) a b hb⟩
end Go.Proofs.Ytglcljlafioleaa

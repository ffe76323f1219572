/-
  quipuref.Span walked.
-/
import Derived.Test.YtipnnpjinopgoaaSpans
import Derived.Test.YtipnnpjinopgoaaBit64
set_option linter.unusedVariables false
namespace Go.Proofs.Ytipnnpjinopgoaa
open Go.RowKit

theorem spanR_next (l : List Nat) (n j : Nat) (p : Nat → Bool) : (List.range (j + 1)).filter p = (List.range j).filter p ++ if p j then [j] else [] := filt_next p j
set_option maxHeartbeats 1600000 in
theorem ref_Span (m : Nat) (A : Option Addr) (n c : Nat) (l : List Nat) (w : World) (h : Reads w w.heap.size A n (vn .u32 l)) (hn : n ≤ 8) (hm : m ≤ 12) (hrow : ∀ x ∈ l, x < 2 ^ m) :
    Calls Try.prog 9 #[.int .i64 (m : Int), .slice A n c] w (RetS w 36 (vn .u32 (spanR l n m))) := by
  have hp12 := pow_le12 hm
  have hq12 := pow_le12 (m := n) (by omega)
  have HROW := Lib.hid hrow
  have es := shl_int (m := n) (by omega)
  have ew := wrap_pow (i := m) (by omega)
  obtain ⟨p, hp⟩ : ∃ p, p = 2 ^ m := ⟨_, rfl⟩
  obtain ⟨q, hq⟩ : ∃ q, q = 2 ^ n := ⟨_, rfl⟩
  have hML := fun s => markL_len l n m s
  have hM0 := markL_zero l n m
  rw [← hp] at ew hp12 hM0
  rw [← hq] at es hq12
  have HP := Lib.hid hp
  have HQ := Lib.hid hq
  have HML : Hid (∀ s, (markL l n m s).length = p) := fun s => by rw [HP.out]; exact hML s
  have HM0 := Lib.hid hM0
  clear hp hq hML hM0 hrow
  go_enter Try.func9, Try.ntmps9
  go_wp2_with (at_make; refine mkN el_bools rfl _ _ rfl w.heap.size p rfl rfl ew ew (by omega) (by unfold maxLen; omega) (Nat.le_refl _) ?_; intro w1 ho1 hb1 hs1)
  rw [HM0.out] at ho1
  go_loopw [6] (fun iv wr => ∃ s : Nat, s ≤ q ∧ iv = .int .u32 (s : Int) ∧ Own wr w.heap.size 4 (.slice (some ⟨w.heap.size, 0, none⟩) p p) (vb (markL l n m s)) ∧ Below w.heap.size w wr) (fun iv _ => q - (intOf iv).toNat)
  case atStart => exact ⟨0, by omega, rfl, ho1, hb1⟩
  case round =>
    obtain ⟨s, hs, rfl, hown, hbel⟩ := hrel
    clear ho1 hb1 HM0
    obtain ⟨wo, rfl⟩ : ∃ wo : World, wo = wr := ⟨_, rfl⟩
    by_cases hlt : s < q
    · obtain ⟨x, hx⟩ : ∃ x, xsel l (bitB s) n = x := ⟨_, rfl⟩
      have hxp : x < p := by rw [← hx, HP.out]; exact xsel_lt HROW.out _ _
      have cs := fun W => ref_Sum (m := m) A n c l s (x : Int) W (B := w.heap.size)
      have cs2 := cs wo (h.below hbel) hm HROW.out hn (by omega) (by unfold Hid; rw [hx])
      have hst := hown.set x (.bool true)
      rw [vb_set, markL_next l n m s x hx] at hst
      have hsb := hown.setBelow (Nat.le_refl _) x (.bool true)
      have hcx : wo.cell? ⟨w.heap.size, x, none⟩ = (vb (markL l n m s))[x]? := by rw [← add_row]; exact hown.cellAt hxp
      have hfx : wo.frozen? ⟨w.heap.size, x, none⟩ = false := by rw [← add_row]; exact hown.frozenAt x
      rw [add_row] at hst hsb
      obtain ⟨b0, hb0⟩ : ∃ b0, (markL l n m s)[x]? = some b0 := ⟨_, List.getElem?_eq_getElem (by rw [HML.out]; exact hxp)⟩
      rw [List.getElem?_map, hb0] at hcx
      have hcx2 : wo.cell? ⟨w.heap.size, x, none⟩ = some (.bool b0) := hcx
      have x0 : (0 : Int) ≤ (x : Int) := by omega
      have x1 : (x : Int) < (p : Int) := by omega
      clear hx cs hb0 hcx
      go_wp2_with (go_at_call 17; refine cs2.mono ?_; clear cs2; rintro e w' ⟨rfl, rfl⟩)
      go_roundw
      case rel => exact ⟨s + 1, by omega, by go_num, hst, hbel.trans hsb⟩
      case measure => simp [intOf] <;> omega
    · obtain rfl : s = q := by omega
      go_wp2
      have HRD := Lib.hid hown.reads
      have HBEL := Lib.hid hbel
      clear hown hbel
      go_loopw [7, 8] (fun v iv wr => ∃ j : Nat, j ≤ p ∧ iv = .int .i64 (j : Int) ∧ Own wr wo.heap.size 36 v (vn .u32 ((List.range j).filter (marked l n s))) ∧ Below wo.heap.size wo wr) (fun _ iv _ => p - (intOf iv).toNat)
      case atStart => exact ⟨0, by omega, rfl, Own.nil _ _ _, Below.refl _ _⟩
      case round =>
        obtain ⟨j, hj, rfl, hown, hbel⟩ := hrel
        have hl : (vn .u32 ((List.range j).filter (marked l n s))).length ≤ j := by rw [List.length_map]; exact filt_len _ j
        by_cases hlt2 : j < p
        · obtain ⟨ad, y, e, _, hy, hcy⟩ := (HRD.out.below hbel).bool_at hlt2
          injection e with e
          subst e
          rw [add_row] at hcy
          have hyv : y = marked l n s j := by
            unfold markL at hy
            rw [List.getElem?_map, List.getElem?_range (by rw [← HP.out]; exact hlt2)] at hy
            injection hy with hy
            exact hy.symm
          have HNX := Lib.hid (spanR_next l n j (marked l n s))
          rw [← hyv] at HNX
          have j1 : (j : Int) < (p : Int) := by omega
          have jw : IntKind.u32.wrap (j : Int) = (j : Int) := by rw [IntKind.wrap_u32]; omega
          clear hy hyv
          cases y
          · go_wp2
            go_roundw
            case rel => exact ⟨j + 1, by omega, by go_num, by rw [HNX.out]; simpa using hown, hbel⟩
            case measure => simp [intOf] <;> omega
          · go_wp2_with (at_builtin; refine app1 el_u32s rfl _ _ rfl rfl hown _ _ rfl rfl (by unfold maxLen; omega) (by omega) hbel.size ?_; intro v1 w3 ho1 hb3 _ _)
            go_roundw
            case rel => exact ⟨j + 1, by omega, by go_num, by rw [HNX.out]; simpa [vn] using ho1, hbel.trans hb3⟩
            case measure => simp [intOf] <;> omega
        · obtain rfl : j = p := by omega
          obtain ⟨A2, c2, e⟩ := hown.form
          have HE : Hid (vn .u32 ((List.range j).filter (marked l n s)) = vn .u32 (spanR l n m)) := by unfold Hid spanR; rw [HP.out, HQ.out]
          rw [HE.out] at hown hl e
          generalize hn2 : (vn .u32 (spanR l n m)).length = n2 at e hl
          subst e
          clear hn2
          go_wp2
          go_ret
          exact ⟨A2, n2, c2, rfl, hown.low HBEL.out.size, HBEL.out.trans (hbel.mono HBEL.out.size)⟩
end Go.Proofs.Ytipnnpjinopgoaa

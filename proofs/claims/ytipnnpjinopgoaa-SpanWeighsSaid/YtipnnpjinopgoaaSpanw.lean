/-
  span.Weights and its law.
-/
import Derived.Test.YtipnnpjinopgoaaSpanm
set_option linter.unusedVariables false
namespace Go.Proofs.Ytipnnpjinopgoaa
open Go.RowKit

theorem el_longs : Elem Try.prog 33 2 (.int .i64 0) 8 := Elem.mk' Try.underlying33 (by kernel_rfl) rfl
theorem popAux_none (a : Nat) : Lib.popAux a 0 = 0 := by
  induction a with
  | zero => rfl
  | succ a ih => simp [Lib.popAux, ih]
theorem pop_small {m x : Nat} (hm : m ≤ 12) (h : x < 2 ^ m) : pop x ≤ m := by
  have e : pop x = Lib.popAux (m + (32 - m)) x := by unfold pop; rw [show m + (32 - m) = 32 by omega]
  rw [e, popAux_add, Nat.div_eq_of_lt h, popAux_none]
  exact popAux_le m x
/-- how many words there are with 0, 1, .. m bits -/
def cntW (m : Nat) (r : List Nat) : List Nat := (List.range (m + 1)).map fun d => r.countP fun x => decide (pop x = d)
theorem cntW_zero (m : Nat) : List.replicate (m + 1) (Value.int .i64 0) = vn .i64 (cntW m []) := by
  unfold cntW vn
  apply List.ext_getElem (by simp)
  intro i h1 h2
  simp
theorem cntW_len (m : Nat) (r : List Nat) : (cntW m r).length = m + 1 := by simp [cntW]
theorem cntW_at {m x : Nat} (r : List Nat) (h : pop x ≤ m) : (cntW m r)[pop x]? = some (r.countP fun y => decide (pop y = pop x)) := by
  unfold cntW
  rw [List.getElem?_map, List.getElem?_range (by omega)]
  rfl
theorem cntW_next {m x : Nat} (r : List Nat) (h : pop x ≤ m) : (cntW m r).set (pop x) ((r.countP fun y => decide (pop y = pop x)) + 1) = cntW m (r ++ [x]) := by
  unfold cntW
  apply List.ext_getElem (by simp)
  intro i h1 h2
  rw [List.getElem_set]
  simp only [List.getElem_map, List.getElem_range, List.countP_append, List.countP_singleton]
  by_cases e : pop x = i
  · subst e; simp
  · rw [if_neg e, if_neg (by simpa using e)]; simp
theorem cntW_perm {m : Nat} {r q : List Nat} (h : r.Perm q) : cntW m r = cntW m q := by
  unfold cntW
  apply List.map_congr_left
  intro d _
  exact h.countP_eq _
set_option maxHeartbeats 1600000 in
theorem span_Weights (m : Nat) (A : Option Addr) (n c : Nat) (l : List Nat) (w : World) (h : Reads w w.heap.size A n (vn .u32 l)) (hw : ∀ x ∈ l, x < 4294967296) (hz : Hid (rowsErr m l = 0)) (hn : n ≤ 8) (hm : m ≤ 12) (hrow : ∀ x ∈ l, x < 2 ^ m) :
    Calls Try.prog 11 #[.int .i64 (m : Int), .slice A n c] w (RetRZ w (vn .i64 (cntW m (allF l n))) 0) := by
  have c1 := span_Check m A n c l 0 w h hw hz
  have c2 := fun (W : World) (hr : Reads W W.heap.size A n (vn .u32 l)) => span_All A n c l W hr hn hm hrow
  have HROW := Lib.hid hrow
  have m1 : ((m : Int) + 1) = ((m + 1 : Nat) : Int) := by omega
  have HM1 := Lib.hid m1
  clear hrow m1
  go_enter Try.func11, Try.ntmps11
  go_wp2_with (first
    | (go_at_call 14; refine c1.mono ?_; clear c1; rintro e w' ⟨rfl, rfl⟩)
    | (at_make; refine mkN el_longs rfl _ _ rfl w.heap.size (m + 1) rfl rfl HM1.out HM1.out (by omega) (by unfold maxLen; omega) (Nat.le_refl _) ?_; intro w1 ho1 hb1 hs1)
    | (go_at_call 15; refine (c2 _ ((h.below hb1).more hb1.size)).mono ?_; clear c2; rintro e w2 ⟨r, A1, n1, k1, rfl, hl1, hp1, hsr, hr1, hb2⟩; have HL1 := Lib.hid hl1; clear hl1))
  rw [cntW_zero] at ho1
  have ho2 := ho1.below hb2 (Nat.le_refl _)
  have hbw2 := hb1.trans (hb2.mono hb1.size)
  have h256 : n1 ≤ 256 := by have h3 := allF_256 l hn; have h4 := HL1.out; rw [hp1.length_eq] at h4; omega
  have HLT : Hid (∀ x ∈ r, x < 2 ^ m) := fun x hx => allF_lt HROW.out (hp1.mem_iff.1 hx)
  have HP1 := Lib.hid hp1
  have HR1 := Lib.hid hr1
  have HS1 := Lib.hid hs1
  clear hp1 hsr hb1 hb2 ho1 hr1 hs1
  go_loopw [22] (fun iv wr => ∃ k : Nat, k ≤ n1 ∧ iv = .int .i64 (k : Int) ∧ Own wr w.heap.size 2 (.slice (some ⟨w.heap.size, 0, none⟩) (m + 1) (m + 1)) (vn .i64 (cntW m (r.take k))) ∧ Below w.heap.size w wr ∧ Reads wr wr.heap.size A1 n1 (vn .u32 r)) (fun iv _ => n1 - (intOf iv).toNat)
  case atStart => exact ⟨0, by omega, rfl, by simpa using ho2, hbw2, HR1.out.reads⟩
  case round =>
    obtain ⟨k, hk, rfl, hown, hbel, hrd⟩ := hrel
    clear ho2 hbw2
    by_cases hlt : k < n1
    · obtain ⟨ad, x, rfl, hadb, hx, hcx⟩ := hrd.nat_at hlt
      have hxm := HLT.out x (mem_at hx)
      have hpm := pow_le12 hm
      have hpop := pop_small hm hxm
      obtain ⟨d, hd⟩ : ∃ d, pop x = d := ⟨_, rfl⟩
      have hat := cntW_at (r.take k) hpop
      have hnx := cntW_next (r.take k) hpop
      rw [← take_next hx] at hnx
      have hcl : ((r.take k).countP fun y => decide (pop y = pop x)) ≤ 256 := Nat.le_trans List.countP_le_length (Nat.le_trans (List.length_take_le _ _) (by omega))
      obtain ⟨q, hq⟩ : ∃ q, ((r.take k).countP fun y => decide (pop y = pop x)) = q := ⟨_, rfl⟩
      rw [hq] at hat hnx hcl
      rw [hd] at hat hnx hpop
      have co := fun W => ones_count x W (by omega)
      rw [hd] at co
      have hcd : wr.cell? ⟨w.heap.size, d, none⟩ = some (.int .i64 (q : Int)) := by
        rw [← add_row]
        refine (hown.cellAt (j := d) (by omega)).trans ?_
        rw [List.getElem?_map, hat]
        rfl
      have hfd : wr.frozen? ⟨w.heap.size, d, none⟩ = false := by rw [← add_row]; exact hown.frozenAt d
      have hst := hown.set d (.int .i64 ((q + 1 : Nat) : Int))
      rw [vn_set, hnx, add_row] at hst
      have hsb := hown.setBelow (Nat.le_refl _) d (.int .i64 ((q + 1 : Nat) : Int))
      rw [add_row] at hsb
      have hne : ad.block ≠ w.heap.size := by
        obtain ⟨g, e, h1, _⟩ := HR1.out.addr
        have h2 := HS1.out
        rw [e]
        show g ≠ w.heap.size
        omega
      have hrd2 : Reads (wr.setCell ⟨w.heap.size, d, none⟩ (.int .i64 ((q + 1 : Nat) : Int))) (wr.setCell ⟨w.heap.size, d, none⟩ (.int .i64 ((q + 1 : Nat) : Int))).heap.size (some ad) n1 (vn .u32 r) := by
        refine ⟨hrd.len, fun hn0 => ?_⟩
        obtain ⟨ad', e, hb', hc'⟩ := hrd.cells hn0
        injection e with e
        subst e
        refine ⟨_, rfl, by simpa using hb', fun j u hu => (World.cell?_setCell_other wr _ _ _ (fun e => ?_)).trans (hc' j u hu)⟩
        have e2 := congrArg Addr.block e
        rw [block_of_add] at e2
        exact hne (by first | exact e2 | exact e2.symm)
      have q1 : ((q : Int) + 1) = ((q + 1 : Nat) : Int) := by omega
      have HQ1 := Lib.hid q1
      have d0 : (0 : Int) ≤ (d : Int) := by omega
      have d1 : (d : Int) < ((m + 1 : Nat) : Int) := by omega
      have d2 : (d : Int) < (m : Int) + 1 := by omega
      clear hx hd hq hat hnx q1 hxm
      go_wp2_with (go_at_call 19; refine (co _).mono ?_; clear co; rintro e w3 ⟨rfl, mq, rfl⟩)
      go_roundw
      case rel => exact ⟨k + 1, by omega, by go_num, hst.drewN mq, below_drewN (hbel.trans hsb) mq, hrd2.drewN mq⟩
      case measure => simp [intOf] <;> omega
    · obtain rfl : k = n1 := by omega
      go_wp2
      go_ret2
      have hfull : r.take k = r := List.take_of_length_le (Nat.le_of_eq HL1.out)
      rw [hfull, cntW_perm HP1.out] at hown
      exact ⟨_, _, _, rfl, hown.reads, by unfold maxLen; omega, hbel⟩
end Go.Proofs.Ytipnnpjinopgoaa

/-
  The law of span.Weights.
-/
import Derived.Test.YtipnnpjinopgoaaSpanw
set_option linter.unusedVariables false
namespace Go.Proofs.Ytipnnpjinopgoaa
open Go.RowKit

theorem vn_vi (l : List Nat) : vn .i64 l = vi .i64 (l.map fun x : Nat => (x : Int)) := by unfold vn vi; rw [List.map_map]; rfl
set_option maxHeartbeats 1600000 in
theorem SpanWeighs_walk (nb : Int) (A : Option Addr) (n c : Nat) (l : List Nat) (w : World) (_ : (Lit.int .i64 nb).wf = true) (h : Reads w w.heap.size A n (vn .u32 l)) (hw : ∀ x ∈ l, x < 4294967296) (_ : n * 4 ≤ reachBytes) :
    Calls Try.prog 5 #[.int .i64 nb, .slice A n c] w (LawTrue w) := by
  by_cases h0 : rowsErr nb l = 0
  · obtain ⟨hn, m, rfl, hm, hrow⟩ := rowsErr_ok h0
    rw [h.nat_len] at hn
    have c1 := span_Weights m A n c l w h hw h0 hn hm hrow
    have c2 := fun (w' : World) (hr : Reads w' w'.heap.size A n (vn .u32 l)) => ref_RowsCheck m A n c l 0 w' hr hw h0
    have c3 := fun (w' : World) (hr : Reads w' w'.heap.size A n (vn .u32 l)) => ref_Span m A n c l w' hr hn hm hrow
    have hperm := spanR_perm (n := n) (m := m) hrow
    rw [← cntW_perm hperm] at c1
    have HLT : Hid (∀ x ∈ spanR l n m, x < 2 ^ m) := fun x hx => allF_lt hrow (hperm.mem_iff.1 hx)
    have HQL : Hid ((spanR l n m).length ≤ 256) := by unfold Hid; rw [hperm.length_eq]; exact allF_256 l hn
    have m1 : ((m : Int) + 1) = ((m + 1 : Nat) : Int) := by omega
    have HM1 := Lib.hid m1
    clear h0 hrow hperm m1
    generalize spanR l n m = q at *
    go_enter Try.func5, Try.ntmps5
    go_wp2_with (first
      | (go_at_call 11; refine c1.mono ?_; clear c1; rintro e w1 ⟨A1, n1, k1, rfl, hr1, hm1, hb1⟩; have hr := (h.below hb1).more hb1.size)
      | (go_at_call 7; refine (c2 _ hr).mono ?_; clear c2; rintro e w' ⟨rfl, rfl⟩)
      | (at_make; refine mkN el_longs rfl _ _ rfl w1.heap.size (m + 1) rfl rfl HM1.out HM1.out (by omega) (by unfold maxLen; omega) (Nat.le_refl _) ?_; intro w2 ho2 hb2 hs2)
      | (go_at_call 9; refine (c3 _ ((hr.below hb2).more hb2.size)).mono ?_; clear c3; rintro e w3 ⟨A3, n3, k3, rfl, ho3, hb3⟩))
    rw [cntW_zero] at ho2
    have ho2w := ho2.below hb3 (Nat.le_refl _)
    have hbw := hb2.trans (hb3.mono hb2.size)
    have h3l := ho3.reads.nat_len
    have h256 : n3 ≤ 256 := by rw [← h3l]; exact HQL.out
    have HL3 := Lib.hid h3l
    have HO3 := Lib.hid ho3
    have HS2 := Lib.hid hs2
    have HR1 := Lib.hid hr1
    have HB1 := Lib.hid hb1
    have HM1' := Lib.hid hm1
    clear h3l ho2 hr hb2 hb3 ho3 hs2 hr1 hb1 hm1
    go_loopw [37] (fun iv wr => ∃ k : Nat, k ≤ n3 ∧ iv = .int .i64 (k : Int) ∧ Own wr w1.heap.size 2 (.slice (some ⟨w1.heap.size, 0, none⟩) (m + 1) (m + 1)) (vn .i64 (cntW m (q.take k))) ∧ Below w1.heap.size w1 wr ∧ Reads wr wr.heap.size A3 n3 (vn .u32 q)) (fun iv _ => n3 - (intOf iv).toNat)
    case atStart => exact ⟨0, by omega, rfl, by simpa using ho2w, hbw, HO3.out.reads⟩
    case round =>
      obtain ⟨k, hk, rfl, hown, hbel, hrd⟩ := hrel
      clear ho2w hbw
      by_cases hlt : k < n3
      · obtain ⟨ad, x, rfl, hadb, hx, hcx⟩ := hrd.nat_at hlt
        have hxm := HLT.out x (mem_at hx)
        have hpm := pow_le12 hm
        have hpop := pop_small hm hxm
        obtain ⟨d, hd⟩ : ∃ d, pop x = d := ⟨_, rfl⟩
        have hat := cntW_at (q.take k) hpop
        have hnx := cntW_next (q.take k) hpop
        rw [← take_next hx] at hnx
        have hcl : ((q.take k).countP fun y => decide (pop y = pop x)) ≤ 256 := Nat.le_trans List.countP_le_length (Nat.le_trans (List.length_take_le _ _) (by omega))
        obtain ⟨t, ht⟩ : ∃ t, ((q.take k).countP fun y => decide (pop y = pop x)) = t := ⟨_, rfl⟩
        rw [ht] at hat hnx hcl
        rw [hd] at hat hnx hpop
        have co := fun W => ref_Size x W (by omega)
        rw [hd] at co
        have hcd : wr.cell? ⟨w1.heap.size, d, none⟩ = some (.int .i64 (t : Int)) := by
          rw [← add_row]
          refine (hown.cellAt (j := d) (by omega)).trans ?_
          rw [List.getElem?_map, hat]
          rfl
        have hfd : wr.frozen? ⟨w1.heap.size, d, none⟩ = false := by rw [← add_row]; exact hown.frozenAt d
        have hst := hown.set d (.int .i64 ((t + 1 : Nat) : Int))
        rw [vn_set, hnx, add_row] at hst
        have hsb := hown.setBelow (Nat.le_refl _) d (.int .i64 ((t + 1 : Nat) : Int))
        rw [add_row] at hsb
        have hne : ad.block ≠ w1.heap.size := by
          obtain ⟨g, e, h1, _⟩ := HO3.out.addr
          have h2 := HS2.out
          rw [e]
          show g ≠ w1.heap.size
          omega
        have hrd2 : Reads (wr.setCell ⟨w1.heap.size, d, none⟩ (.int .i64 ((t + 1 : Nat) : Int))) (wr.setCell ⟨w1.heap.size, d, none⟩ (.int .i64 ((t + 1 : Nat) : Int))).heap.size (some ad) n3 (vn .u32 q) := by
          refine ⟨hrd.len, fun hn0 => ?_⟩
          obtain ⟨ad', e, hb', hc'⟩ := hrd.cells hn0
          injection e with e
          subst e
          refine ⟨_, rfl, by simpa using hb', fun j u hu => (World.cell?_setCell_other wr _ _ _ (fun e => ?_)).trans (hc' j u hu)⟩
          have e2 := congrArg Addr.block e
          rw [block_of_add] at e2
          exact hne (by first | exact e2 | exact e2.symm)
        have d0 : (0 : Int) ≤ (d : Int) := by omega
        have d1 : (d : Int) < ((m + 1 : Nat) : Int) := by omega
        have d2 : (d : Int) < (m : Int) + 1 := by omega
        clear hx hd ht hat hnx hxm
        go_wp2_with (go_at_call 12; refine (co _).mono ?_; rintro e w4 ⟨rfl, rfl⟩)
        go_roundw
        case rel => exact ⟨k + 1, by omega, by go_num, hst, hbel.trans hsb, hrd2⟩
        case measure => simp [intOf] <;> omega
      · obtain rfl : k = n3 := by omega
        have hfull : q.take k = q := List.take_of_length_le (Nat.le_of_eq HL3.out)
        rw [hfull] at hown
        have h1 := (HR1.out).below hbel
        have h2 := hown.reads
        rw [vn_vi] at h1 h2
        have cw := ref_Longs A1 (some ⟨w1.heap.size, 0, none⟩) n1 (m + 1) k1 (m + 1) _ _ true wr h1 h2 HM1'.out (by unfold Hid; simp)
        clear hfull h1 h2
        go_wp2_with (go_at_call 13; refine cw.mono ?_; clear cw; rintro e w5 ⟨rfl, m5, rfl⟩)
        go_ret
        exact ⟨rfl, below_drewN (HB1.out.trans (hbel.mono HB1.out.size)) _⟩
  · have hz : (rowsErr nb l != 0) = true := by simpa using h0
    have c1 := span_Weights_err nb A n c l (rowsErr nb l) w h hw rfl hz
    have c2 := ref_RowsCheck nb A n c l (rowsErr nb l) w h hw rfl
    clear h0
    generalize rowsErr nb l = z at *
    go_enter Try.func5, Try.ntmps5
    go_wp2_with (first | (go_at_call 11; refine c1.mono ?_; rintro e w1 ⟨rfl, rfl⟩) | (go_at_call 7; refine c2.mono ?_; rintro e w' ⟨rfl, rfl⟩))
    go_ret
    exact .same _
end Go.Proofs.Ytipnnpjinopgoaa

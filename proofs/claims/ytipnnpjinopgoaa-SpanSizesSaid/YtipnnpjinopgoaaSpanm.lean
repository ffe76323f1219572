/-
  The laws of span.Span and span.Size.
-/
import Derived.Test.YtipnnpjinopgoaaSpanl
set_option linter.unusedVariables false
namespace Go.Proofs.Ytipnnpjinopgoaa
open Go.RowKit

set_option maxHeartbeats 800000 in
theorem SpanTells_walk (nb : Int) (A : Option Addr) (n c : Nat) (l : List Nat) (w : World) (_ : (Lit.int .i64 nb).wf = true) (h : Reads w w.heap.size A n (vn .u32 l)) (hw : ∀ x ∈ l, x < 4294967296) (_ : n * 4 ≤ reachBytes) :
    Calls Try.prog 3 #[.int .i64 nb, .slice A n c] w (LawTrue w) := by
  by_cases h0 : rowsErr nb l = 0
  · obtain ⟨hn, m, rfl, hm, hrow⟩ := rowsErr_ok h0
    rw [h.nat_len] at hn
    have c1 := span_Span m A n c l w h hw h0 hn hm hrow
    have c2 := fun (w' : World) (hr : Reads w' w'.heap.size A n (vn .u32 l)) => ref_RowsCheck m A n c l 0 w' hr hw h0
    have c3 := fun (w' : World) (hr : Reads w' w'.heap.size A n (vn .u32 l)) => ref_Span m A n c l w' hr hn hm hrow
    clear h0 hrow
    generalize spanR l n m = q at *
    go_enter Try.func3, Try.ntmps3
    go_wp2_with (first | (go_at_call 6; refine c1.mono ?_; rintro e w1 ⟨A1, n1, k1, rfl, hr1, hm1, hb1⟩; have hr := (h.below hb1).more hb1.size) | (go_at_call 7; refine (c2 _ hr).mono ?_; rintro e w' ⟨rfl, rfl⟩) | (go_at_call 9; refine (c3 _ hr).mono ?_; rintro e w2 ⟨A2, n2, k2, rfl, ho2, hb2⟩; have hr2 := ho2.reads; clear ho2; have cw := ref_Words A1 A2 n1 n2 k1 k2 q q true w2 (hr1.below hb2) hr2 hm1 (by simp [Hid])) | (go_at_call 8; refine cw.mono ?_; rintro e w3 ⟨rfl, m3, rfl⟩))
    go_ret
    exact ⟨rfl, below_drewN (hb1.trans (hb2.mono hb1.size)) _⟩
  · have hz : (rowsErr nb l != 0) = true := by simpa using h0
    have c1 := span_Span_err nb A n c l (rowsErr nb l) w h hw rfl hz
    have c2 := ref_RowsCheck nb A n c l (rowsErr nb l) w h hw rfl
    clear h0
    generalize rowsErr nb l = z at *
    go_enter Try.func3, Try.ntmps3
    go_wp2_with (first | (go_at_call 6; refine c1.mono ?_; rintro e w1 ⟨rfl, rfl⟩) | (go_at_call 7; refine c2.mono ?_; rintro e w' ⟨rfl, rfl⟩))
    go_ret
    exact .same _
set_option maxHeartbeats 800000 in
theorem SpanSizes_walk (nb : Int) (A : Option Addr) (n c : Nat) (l : List Nat) (w : World) (_ : (Lit.int .i64 nb).wf = true) (h : Reads w w.heap.size A n (vn .u32 l)) (hw : ∀ x ∈ l, x < 4294967296) (_ : n * 4 ≤ reachBytes) :
    Calls Try.prog 4 #[.int .i64 nb, .slice A n c] w (LawTrue w) := by
  by_cases h0 : rowsErr nb l = 0
  · obtain ⟨hn, m, rfl, hm, hrow⟩ := rowsErr_ok h0
    rw [h.nat_len] at hn
    obtain ⟨j, hj, hlen⟩ := allF_len l n
    have c1 := span_Size m j A n c l w h hw h0 hn hm hrow (by omega) hlen
    have c2 := fun (w' : World) (hr : Reads w' w'.heap.size A n (vn .u32 l)) => ref_RowsCheck m A n c l 0 w' hr hw h0
    have c3 := fun (w' : World) (hr : Reads w' w'.heap.size A n (vn .u32 l)) => ref_Span m A n c l w' hr hn hm hrow
    have hq := (spanR_perm (n := n) (m := m) hrow).length_eq
    rw [hlen] at hq
    have ew := wrap_pow (i := j) (by omega)
    obtain ⟨p, hp⟩ : ∃ p, p = 2 ^ j := ⟨_, rfl⟩
    rw [← hp] at hq ew
    have HQ := Lib.hid hq
    have j0 : (0 : Int) ≤ (j : Int) := by omega
    have j12 : (j : Int) ≤ 12 := by omega
    clear h0 hrow hlen hp hq
    generalize spanR l n m = q at *
    go_enter Try.func4, Try.ntmps4
    go_wp2_with (first | (go_at_call 10; refine c1.mono ?_; rintro e w1 ⟨rfl, hb1⟩; have hr := (h.below hb1).more hb1.size) | (go_at_call 7; refine (c2 _ hr).mono ?_; rintro e w' ⟨rfl, rfl⟩) | (go_at_call 9; refine (c3 _ hr).mono ?_; rintro e w2 ⟨A2, n2, k2, rfl, ho2, hb2⟩; have hr2 := ho2.reads; clear ho2; obtain rfl : n2 = p := (by rw [← hr2.nat_len]; exact HQ.out)))
    go_ret
    exact ⟨by first | rfl | (simp only [ew]; simp) | simp, hb1.trans (hb2.mono hb1.size)⟩
  · have hz : (rowsErr nb l != 0) = true := by simpa using h0
    have c1 := span_Size_err nb A n c l (rowsErr nb l) w h hw rfl hz
    have c2 := ref_RowsCheck nb A n c l (rowsErr nb l) w h hw rfl
    clear h0
    generalize rowsErr nb l = z at *
    go_enter Try.func4, Try.ntmps4
    go_wp2_with (first | (go_at_call 10; refine c1.mono ?_; rintro e w1 ⟨rfl, rfl⟩) | (go_at_call 7; refine c2.mono ?_; rintro e w' ⟨rfl, rfl⟩))
    go_ret
    exact .same _
end Go.Proofs.Ytipnnpjinopgoaa

/-
  span.Span, span.Size, span.Weights and their laws.
-/
import Derived.Test.YtipnnpjinopgoaaSpanr
import Derived.Test.YtipnnpjinopgoaaWordsEq
import Derived.Test.YtipnnpjinopgoaaLongs
set_option linter.unusedVariables false
namespace Go.Proofs.Ytipnnpjinopgoaa
open Go.RowKit

theorem span_Span_err (nb : Int) (A : Option Addr) (n c : Nat) (l : List Nat) (z : Int) (w : World) (h : Reads w w.heap.size A n (vn .u32 l)) (hw : ∀ x ∈ l, x < 4294967296) (hz : Hid (rowsErr nb l = z)) (h0 : (z != 0) = true) :
    Calls Try.prog 6 #[.int .i64 nb, .slice A n c] w (Ret w (.tuple #[.slice none 0 0, .int .i64 z])) := by
  have c1 := span_Check nb A n c l z w h hw hz
  go_enter Try.func6, Try.ntmps6
  go_wp2_with (go_at_call 14; refine c1.mono ?_; rintro e w' ⟨rfl, rfl⟩)
  go_ret2
  exact ⟨rfl, rfl⟩
theorem span_Size_err (nb : Int) (A : Option Addr) (n c : Nat) (l : List Nat) (z : Int) (w : World) (h : Reads w w.heap.size A n (vn .u32 l)) (hw : ∀ x ∈ l, x < 4294967296) (hz : Hid (rowsErr nb l = z)) (h0 : (z != 0) = true) :
    Calls Try.prog 10 #[.int .i64 nb, .slice A n c] w (Ret w (.tuple #[.int .i64 0, .int .i64 z])) := by
  have c1 := span_Check nb A n c l z w h hw hz
  go_enter Try.func10, Try.ntmps10
  go_wp2_with (go_at_call 14; refine c1.mono ?_; rintro e w' ⟨rfl, rfl⟩)
  go_ret2
  exact ⟨rfl, rfl⟩
theorem span_Weights_err (nb : Int) (A : Option Addr) (n c : Nat) (l : List Nat) (z : Int) (w : World) (h : Reads w w.heap.size A n (vn .u32 l)) (hw : ∀ x ∈ l, x < 4294967296) (hz : Hid (rowsErr nb l = z)) (h0 : (z != 0) = true) :
    Calls Try.prog 11 #[.int .i64 nb, .slice A n c] w (Ret w (.tuple #[.slice none 0 0, .int .i64 z])) := by
  have c1 := span_Check nb A n c l z w h hw hz
  go_enter Try.func11, Try.ntmps11
  go_wp2_with (go_at_call 14; refine c1.mono ?_; rintro e w' ⟨rfl, rfl⟩)
  go_ret2
  exact ⟨rfl, rfl⟩
def RetRZ (w : World) (xs : List Value) (z : Int) (e : Ending) (w' : World) : Prop :=
  ∃ A n c, e = .returned (.tuple #[.slice A n c, .int .i64 z]) ∧ Reads w' w'.heap.size A n xs ∧ n ≤ maxLen ∧ Below w.heap.size w w'
set_option maxHeartbeats 800000 in
theorem span_Span (m : Nat) (A : Option Addr) (n c : Nat) (l : List Nat) (w : World) (h : Reads w w.heap.size A n (vn .u32 l)) (hw : ∀ x ∈ l, x < 4294967296) (hz : Hid (rowsErr m l = 0)) (hn : n ≤ 8) (hm : m ≤ 12) (hrow : ∀ x ∈ l, x < 2 ^ m) :
    Calls Try.prog 6 #[.int .i64 (m : Int), .slice A n c] w (RetRZ w (vn .u32 (spanR l n m)) 0) := by
  have c1 := span_Check m A n c l 0 w h hw hz
  have c2 := span_All A n c l w h hn hm hrow
  have HROW := Lib.hid hrow
  clear hrow
  go_enter Try.func6, Try.ntmps6
  go_wp2_with (first | (go_at_call 14; refine c1.mono ?_; clear c1; rintro e w' ⟨rfl, rfl⟩) | (go_at_call 15; refine c2.mono ?_; clear c2; rintro e w1 ⟨r, A1, n1, k1, rfl, hl1, hp1, hs1, hr1, hb1⟩; have HL1 := Lib.hid hl1; clear hl1))
  go_ret2
  have e1 := sorted_span HROW.out hp1 hs1
  have h256 := allF_256 l hn
  have h3 := HL1.out
  rw [hp1.length_eq] at h3
  exact ⟨A1, n1, k1, rfl, by rw [← e1]; exact hr1.reads, by unfold maxLen; omega, hb1⟩
theorem bitLen_pow : ∀ j : Fin 9, Lib.bitLen (2 ^ j.val) = j.val + 1 := by decide +kernel
set_option maxHeartbeats 800000 in
theorem span_Size (m j : Nat) (A : Option Addr) (n c : Nat) (l : List Nat) (w : World) (h : Reads w w.heap.size A n (vn .u32 l)) (hw : ∀ x ∈ l, x < 4294967296) (hz : Hid (rowsErr m l = 0)) (hn : n ≤ 8) (hm : m ≤ 12) (hrow : ∀ x ∈ l, x < 2 ^ m) (hj : j ≤ 8) (hlen : Hid ((allF l n).length = 2 ^ j)) :
    Calls Try.prog 10 #[.int .i64 (m : Int), .slice A n c] w (RetB w (.tuple #[.int .i64 (j : Int), .int .i64 0])) := by
  have c1 := span_Check m A n c l 0 w h hw hz
  have c2 := span_All A n c l w h hn hm hrow
  obtain ⟨p, hp⟩ : ∃ p, p = 2 ^ j := ⟨_, rfl⟩
  have hp12 := pow_le12 (m := j) (by omega)
  have c3 := fun W => Su.bits_Len (p : Int) W (by omega) (by rw [hp]; omega)
  have hbl := bitLen_pow ⟨j, by omega⟩
  simp only at hbl
  rw [← hp] at hbl hp12
  rw [Int.toNat_natCast, hbl] at c3
  have HPL : Hid ((allF l n).length = p) := by unfold Hid; rw [hlen.out, hp]
  have jw : ((j + 1 : Nat) : Int) - 1 = (j : Int) := by omega
  have pw : IntKind.u64.wrap (p : Int) = (p : Int) := by rw [IntKind.wrap_u64]; omega
  clear hp hrow hbl
  go_enter Try.func10, Try.ntmps10
  go_wp2_with (first | (go_at_call 14; refine c1.mono ?_; clear c1; rintro e w' ⟨rfl, rfl⟩) | (go_at_call 15; refine c2.mono ?_; clear c2; rintro e w1 ⟨r, A1, n1, k1, rfl, hl1, hp1, hs1, hr1, hb1⟩; obtain rfl : n1 = p := (by rw [← hl1, hp1.length_eq]; exact HPL.out); clear hl1) | (go_at_call 18; refine (c3 _).mono ?_; clear c3; rintro e w2 ⟨rfl, rfl⟩))
  go_ret2
  exact ⟨ret_ii (by rw [Prod.mk.injEq]; exact ⟨by omega, rfl⟩), hb1⟩
end Go.Proofs.Ytipnnpjinopgoaa

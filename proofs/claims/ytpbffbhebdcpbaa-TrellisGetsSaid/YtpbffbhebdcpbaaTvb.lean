/-
  trellis.better: less off, or the same, and 0 where both first differ.
-/
import Derived.Test.YtpbffbhebdcpbaaTvl
import Derived.Test.YtpbffbhebdcpbaaStore
set_option linter.unusedVariables false
namespace Go.Proofs.Ytpbffbhebdcpbaa
open Go.RowKit

theorem two_cells (w : World) (T : TypeId) (u v : Value) : (w.alloc (.cells #[u, v] T)).cell? ⟨w.heap.size, 0, none⟩ = some u ∧ (w.alloc (.cells #[u, v] T)).cell? ⟨w.heap.size, 1, none⟩ = some v :=
  cell_of_heap2 (heap_alloc_new w _)
set_option maxHeartbeats 800000 in
theorem trellis_better (A A' : Option Addr) (n c c' : Nat) (p p' : List Bool) (o o' : Nat) (r : Bool) (w : World) {B B' : Nat} (h : Reads w B A n (vb p)) (h' : Reads w B' A' n (vb p')) (hB : B ≤ w.heap.size) (hB' : B' ≤ w.heap.size) (hn : n ≤ 100) (ho : o ≤ 1000) (ho' : o' ≤ 1000) (hr : Hid (bet o p o' p' = r)) :
    Calls Try.prog 22 #[.agg #[.slice A n c, .int .i64 (o : Int)], .agg #[.slice A' n c', .int .i64 (o' : Int)]] w (RetB w (.bool r)) := by
  obtain ⟨a0, a1⟩ := two_cells w 51 (.slice A n c) (.int .i64 (o : Int))
  obtain ⟨b0, b1⟩ := two_cells (w.alloc (.cells #[.slice A n c, .int .i64 (o : Int)] 51)) 51 (.slice A' n c') (.int .i64 (o' : Int))
  rw [World.size_alloc] at b0 b1
  have a0' := (World.cell?_alloc_lt _ (.cells #[.slice A' n c', .int .i64 (o' : Int)] 51) ⟨w.heap.size, 0, none⟩ (by simp)).trans a0
  have a1' := (World.cell?_alloc_lt _ (.cells #[.slice A' n c', .int .i64 (o' : Int)] 51) ⟨w.heap.size, 1, none⟩ (by simp)).trans a1
  have hbe : Below w.heap.size w ((w.alloc (.cells #[.slice A n c, .int .i64 (o : Int)] 51)).alloc (.cells #[.slice A' n c', .int .i64 (o' : Int)] 51)) := ((Below.refl _ w).alloc (Nat.le_refl _) _).alloc (by simp) _
  have hr1 := (h.alloc hB (.cells #[.slice A n c, .int .i64 (o : Int)] 51)).alloc (by simp; omega) (.cells #[.slice A' n c', .int .i64 (o' : Int)] 51)
  have hr2 := (h'.alloc hB' (.cells #[.slice A n c, .int .i64 (o : Int)] 51)).alloc (by simp; omega) (.cells #[.slice A' n c', .int .i64 (o' : Int)] 51)
  have HL := Lib.hid h.bool_len
  have HL' := Lib.hid h'.bool_len
  clear a0 a1 h h'
  by_cases hoo : o = o'
  · subst hoo
    have HX : Hid (lexlt p p' = r) := by unfold Hid; rw [← hr.out]; unfold bet; rw [if_pos rfl]
    clear hr
    go_enter Try.func22, Try.ntmps22
    go_wp2
    generalize hwa : (w.alloc (.cells #[.slice A n c, .int .i64 (o : Int)] 51)).alloc (.cells #[.slice A' n c', .int .i64 (o : Int)] 51) = wa at *
    go_loopw [20, 5, 6] (fun iv _ _ wr => ∃ k : Nat, k ≤ n ∧ iv = .int .i64 (k : Int) ∧ wr = wa ∧ Hid (lexlt (p.drop k) (p'.drop k) = r)) (fun iv _ _ _ => n - (intOf iv).toNat)
    case atStart => exact ⟨0, Nat.zero_le _, rfl, rfl, HX.out⟩
    case round =>
      obtain ⟨k, hk, rfl, hwr, hx⟩ := hrel
      obtain rfl : wa = wr := hwr.symm
      by_cases hlt : k < n
      · obtain ⟨ad, x, e, _, hx1, hc1⟩ := hr1.bool_at hlt
        subst e
        obtain ⟨ad', y, e, _, hy1, hc2⟩ := hr2.bool_at hlt
        subst e
        have hst := hx.out
        rw [drop_next hx1, drop_next hy1, lexlt] at hst
        have k0 : (0 : Int) ≤ (k : Int) := by omega
        have k1 : (k : Int) < (n : Int) := by omega
        have HST := Lib.hid hst
        clear hx1 hy1 hst hx
        cases x <;> cases y
        · have HN : Hid (lexlt (p.drop (k + 1)) (p'.drop (k + 1)) = r) := by have := HST.out; unfold Hid; simpa using this
          go_wp2
          go_roundw
          case rel => exact ⟨k + 1, by omega, by go_num, by trivial, HN.out⟩
          case measure => simp [intOf] <;> omega
        · have HN : Hid (true = r) := by have := HST.out; unfold Hid; simpa using this
          go_wp2
          go_ret
          exact ⟨ret_b HN.out, hbe⟩
        · have HN : Hid (false = r) := by have := HST.out; unfold Hid; simpa using this
          go_wp2
          go_ret
          exact ⟨ret_b HN.out, hbe⟩
        · have HN : Hid (lexlt (p.drop (k + 1)) (p'.drop (k + 1)) = r) := by have := HST.out; unfold Hid; simpa using this
          go_wp2
          go_roundw
          case rel => exact ⟨k + 1, by omega, by go_num, by trivial, HN.out⟩
          case measure => simp [intOf] <;> omega
      · obtain rfl : n = k := by omega
        have k1 : ¬ (n : Int) < (n : Int) := by omega
        have HN : Hid (false = r) := by
          have := hx.out
          rw [List.drop_of_length_le (by rw [HL.out]; exact Nat.le_refl _), List.drop_of_length_le (by rw [HL'.out]; exact Nat.le_refl _)] at this
          exact this
        clear hx
        go_wp2
        go_ret
        exact ⟨ret_b HN.out, hbe⟩
  · have hne : ((o : Int) != (o' : Int)) = true := by simp; omega
    have HX : Hid (decide (o < o') = r) := by
      unfold Hid; rw [← hr.out]; unfold bet; rw [if_neg hoo]
    clear hr hoo
    go_enter Try.func22, Try.ntmps22
    go_wp2
    go_ret
    exact ⟨ret_b HX.out, hbe⟩
end Go.Proofs.Ytpbffbhebdcpbaa

/-
  unique.find: two lists that are alike, or none.
-/
import Derived.Test.YtpbffbhebdcpbaaUnk
import Derived.Test.YtpbffbhebdcpbaaPreadIdxU
import Derived.Test.YtpbffbhebdcpbaaCloneInts
set_option linter.unusedVariables false
namespace Go.Proofs.Ytpbffbhebdcpbaa
open Go.RowKit

theorem el_us : ElemK Try.prog 75 77 3 72 := ElemK.mk' (z := .agg #[.slice none 0 0, .slice none 0 0, .slice none 0 0]) Try.underlying75 (by kernel_rfl) rfl (by omega)
/-- a slice from k on, k its capacity or not -/
theorem reads_from {w : World} {B n k c : Nat} {ad : Addr} {l : List Bool} (h : Reads w B (some ad) n (vb l)) (hn : 0 < n) (hk : k ≤ n) (hc : n ≤ c) : Reads w B (if c = k then some ad else some (ad.add k)) (n - k) (vb (l.drop k)) := by
  have hl := h.bool_len
  by_cases e : c = k
  · obtain rfl : k = n := by omega
    rw [if_pos e, Nat.sub_self, List.drop_of_length_le (by omega)]
    obtain ⟨ad', e1, hb, _⟩ := h.cells hn
    exact ⟨rfl, fun h0 => absurd h0 (by omega)⟩
  · rw [if_neg e]
    obtain ⟨ad', e1, hb, hcs⟩ := h.cells hn
    injection e1 with e1; subst e1
    refine ⟨by simp; omega, fun _ => ⟨_, rfl, by rw [block_of_add]; exact hb, fun j u hu => ?_⟩⟩
    rw [add_of_add]
    refine hcs _ _ ?_
    rw [List.getElem?_map, List.getElem?_drop] at hu
    rw [List.getElem?_map]; exact hu
/-- what find answers, in memory -/
def FindP (w : World) (C : List (List Bool)) (e : Ending) (w' : World) : Prop :=
  ∃ A1 n1 c1 A2 n2 c2 a b, e = .returned (.tuple #[.slice A1 n1 c1, .slice A2 n2 c2]) ∧ FindR C a b ∧ a.length ≤ 1000 ∧ b.length ≤ 1000 ∧ Own w' w.heap.size 3 (.slice A1 n1 c1) (vn .i64 a) ∧ Own w' w.heap.size 3 (.slice A2 n2 c2) (vn .i64 b) ∧ Below w.heap.size w w'
theorem startJ_hit {C : List (List Bool)} {i j : Nat} {a b : List Bool} (hi : C[i]? = some a) (hj : C[j]? = some b) (hne : i ≠ j) (hb : begB b a = true) : startJ C i (j + 1) = startJ C i j ++ [⟨a.drop b.length, [i], [j]⟩] := by
  rw [startJ]
  congr 1
  unfold firstS
  rw [getD_at hi, getD_at hj, hb]
  have : (i != j) = true := by simpa using hne
  rw [this]; rfl
theorem startJ_no {C : List (List Bool)} {i j : Nat} {a b : List Bool} (hi : C[i]? = some a) (hj : C[j]? = some b) (h : i = j ∨ begB b a = false) : startJ C i (j + 1) = startJ C i j := by
  rw [startJ]
  unfold firstS
  rw [getD_at hi, getD_at hj]
  rcases h with h | h
  · subst h; simp
  · rw [h]; simp

set_option maxHeartbeats 800000 in
theorem unique_find_empty (A : Option Addr) (n c k : Nat) (C : List (List Bool)) (w : World) (h : Reads2c w w.heap.size A n C) (hn : n ≤ 8) (hk : Hid (idxOf (fun k => decide ((C.getD k []).length = 0)) n = (k : Int))) (hat : C[k]? = some []) :
    Calls Try.prog 27 #[.slice A n c] w (FindP w C) := by
  have cI := idx_find1 A n c C (k : Int) w h (by unfold maxLen; omega) hk
  have HF := Lib.hid (FindR.empty hat)
  clear hk hat h
  have hk0 : (0 : Int) ≤ (k : Int) := by omega
  go_enter Try.func27, Try.ntmps27
  go_wp2_with (go_at_call 42; refine cI.mono ?_; clear cI; rintro e w1 ⟨rfl, m1, rfl⟩)
  go_ret2
  have hb := below_drewN (Below.refl w.heap.size w) m1
  refine ⟨_, _, _, none, 0, 0, [k], [], rfl, HF.out, by simp, by simp, ?_, Own.nil _ _ _, hb.alloc (Nat.le_refl _) _⟩
  have := Own.built (base := w.heap.size) (E := 3) (w.drewN m1) #[.int .i64 (k : Int)] 1 rfl (by unfold maxLen; omega) (Nat.le_refl _)
  exact this
end Go.Proofs.Ytpbffbhebdcpbaa

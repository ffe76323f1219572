import Derived.Test.YtpbffbhebdcpbaaOwn
import Derived.Test.YtpbffbhebdcpbaaBools
import Derived.Test.YtpbffbhebdcpbaaConcatBools
import Derived.Test.YtpbffbhebdcpbaaOnes
import Derived.Test.YtpbffbhebdcpbaaStore
set_option linter.unusedVariables false
namespace Go.Proofs.Ytpbffbhebdcpbaa
open Go.RowKit

set_option maxHeartbeats 400000 in
theorem trellis_out (s0 s1 b x y : Bool) (w : World) (hx : ((b != s0) != s1) = x) (hy : (b != s1) = y) :
    Calls Try.prog 21 #[.agg #[.bool s0, .bool s1], .bool b] w (RetB w (.agg #[.bool x, .bool y])) := by
  subst hx
  subst hy
  cases s0 <;> cases s1 <;> cases b
  all_goals
    go_enter Try.func21, Try.ntmps21
    go_wp2
    refine bodyPost_ret (v := .agg #[.bool _, .bool _]) (by simp [results, Try.f21, go_sem]) rfl ⟨rfl, ((Below.refl _ _).alloc (Nat.le_refl _) _).alloc (by simp) _⟩

def atB (l : List Bool) (i : Int) : Bool := if 0 ≤ i then l.getD i.toNat false else false
set_option maxHeartbeats 400000 in
theorem ref_at (A : Option Addr) (n c : Nat) (l : List Bool) (i : Int) (b : Bool) (w : World) {B : Nat} (h : Reads w B A n (vb l)) (hn : n ≤ 1000) (hr : Hid (atB l i = b)) :
    Calls Try.prog 39 #[.slice A n c, .int .i64 i] w (Ret w (.bool b)) := by
  have H := Lib.hid h.bool_len
  by_cases h0 : 0 ≤ i
  · by_cases h1 : i < n
    · obtain ⟨k, rfl⟩ : ∃ k : Nat, i = k := ⟨i.toNat, by omega⟩
      obtain ⟨ad, x, rfl, hb, hx, hc⟩ := h.bool_at (k := k) (by omega)
      have HB : Hid (x = b) := by unfold Hid; rw [← hr.out]; unfold atB; simp [List.getD, hx]
      clear hx
      go_enter Try.func39, Try.ntmps39
      go_wp2
      go_ret
      exact ⟨ret_b HB.out, rfl⟩
    · have HB : Hid (false = b) := by
        unfold Hid; rw [← hr.out]; unfold atB; rw [if_pos h0]; simp [List.getD]; rw [List.getElem?_eq_none (by have := H.out; omega)]; rfl
      go_enter Try.func39, Try.ntmps39
      go_wp2
      go_ret
      exact ⟨ret_b HB.out, rfl⟩
  · have HB : Hid (false = b) := by unfold Hid; rw [← hr.out]; unfold atB; rw [if_neg h0]
    go_enter Try.func39, Try.ntmps39
    go_wp2
    go_ret
    exact ⟨ret_b HB.out, rfl⟩
def oddT (l : List Bool) : Bool := onesL l % 2 == 1
theorem mod2T (q : Nat) : (((q : Nat) : Int) % 2 == 1) = (q % 2 == 1) := by
  rcases Nat.mod_two_eq_zero_or_one q with h | h
  · rw [h]; have : ((q : Nat) : Int) % 2 = 0 := by omega
    rw [this]; rfl
  · rw [h]; have : ((q : Nat) : Int) % 2 = 1 := by omega
    rw [this]; rfl
set_option maxHeartbeats 400000 in
theorem ref_OddBitsT (A : Option Addr) (n c : Nat) (l : List Bool) (b : Bool) (w : World) {B : Nat} (h : Reads w B A n (vb l)) (hn : n ≤ 1000) (hr : Hid (oddT l = b)) :
    Calls Try.prog 38 #[.slice A n c] w (Ret w (.bool b)) := by
  have H := Lib.hid h.bool_len
  go_enter Try.func38, Try.ntmps38
  go_wp2
  go_loop [3, 8] (fun s i => ∃ k : Nat, k ≤ n ∧ i = .int .i64 k ∧ s = .int .i64 (onesL (l.take k) : Int)) (fun _ i => n - (intOf i).toNat)
  case atStart => exact ⟨0, by omega, rfl, by simp [onesL]⟩
  case round =>
    obtain ⟨k, hk, rfl, rfl⟩ := hrel
    have hbd := onesL_le (l.take k)
    have hbd2 : (l.take k).length ≤ k := List.length_take_le _ _
    have hq : onesL (l.take k) ≤ k := by omega
    clear hbd hbd2
    by_cases hlt : k < n
    · obtain ⟨ad, x, rfl, hb, hx, hc⟩ := h.bool_at hlt
      have HX := Lib.hid (onesL_next hx)
      clear hx
      generalize onesL (l.take k) = q at *
      cases x
      · go_wp2
        go_round
        case rel => exact ⟨k + 1, by omega, by go_num, by rw [HX.out]; simp⟩
        case measure => simp [intOf]; omega
      · go_wp2
        go_round
        case rel => exact ⟨k + 1, by omega, by go_num, by rw [HX.out]; simp⟩
        case measure => simp [intOf]; omega
    · obtain rfl : k = n := by omega
      have ht : onesL (l.take k) = onesL l := by rw [List.take_of_length_le (Nat.le_of_eq H.out)]
      have hE : (((onesL l : Nat) : Int) % 2 == 1) = b := by rw [mod2T, ← hr.out]; rfl
      rw [ht] at hq ⊢
      have HE := Lib.hid hE
      clear ht hE
      generalize onesL l = q at *
      go_wp2
      go_ret
      exact ⟨ret_b HE.out, rfl⟩


def tr1 (l : List Bool) (k : Nat) : Bool := (atB l k != atB l (k - 1)) != atB l (k - 2)
def tr2 (l : List Bool) (k : Nat) : Bool := atB l k != atB l (k - 2)
def trL (l : List Bool) : Nat → List Bool
  | 0 => []
  | k + 1 => trL l k ++ [tr1 l k, tr2 l k]
theorem trL_len (l : List Bool) (k : Nat) : (trL l k).length = 2 * k := by
  induction k with
  | zero => rfl
  | succ k ih => rw [trL, List.length_append, ih]; simp; omega
theorem atB_pad (l : List Bool) (k : Nat) (h : k < l.length + 2) : (l ++ [false, false])[k]? = some (atB l k) := by
  unfold atB
  rw [if_pos (by omega), Int.toNat_natCast]
  rcases Nat.lt_or_ge k l.length with h1 | h1
  · rw [List.getElem?_append_left h1]; simp [List.getD, List.getElem?_eq_getElem h1]
  · rw [List.getElem?_append_right h1]
    have e : l.getD k false = false := by simp [List.getD, List.getElem?_eq_none h1]
    rw [e]
    rcases (by omega : k - l.length = 0 ∨ k - l.length = 1) with h2 | h2 <;> rw [h2] <;> rfl
theorem one_vbT (l : List Bool) : ∀ u ∈ vb l, u.oneCell' = true := by
  intro u hu; obtain ⟨b, _, rfl⟩ := List.mem_map.1 hu; rfl
theorem cell_of_heap2 {w : World} {g : Nat} {u v : Value} {T : TypeId} (h : w.heap[g]? = some (.cells #[u, v] T (0, 0))) : w.cell? ⟨g, 0, none⟩ = some u ∧ w.cell? ⟨g, 1, none⟩ = some v := by
  have h0 := cell_of_row w g 0 _ T (0, 0) h
  have h1 := cell_of_row w g 1 _ T (0, 0) h
  exact ⟨by rw [h0]; rfl, by rw [h1]; rfl⟩
theorem two_set {w : World} {g : Nat} {u v : Value} {T : TypeId} (x y : Value) (h : w.heap[g]? = some (.cells #[u, v] T (0, 0))) : ((w.setCell ⟨g, 0, none⟩ x).setCell ⟨g, 1, none⟩ y).heap[g]? = some (.cells #[x, y] T (0, 0)) := by
  simp [World.setCell, Array.getElem?_modify, h]
theorem two_frozen {w : World} {g : Nat} {u v : Value} {T : TypeId} (j : Nat) (h : w.heap[g]? = some (.cells #[u, v] T (0, 0))) : w.frozen? ⟨g, j, none⟩ = false := by
  simp [World.frozen?, h]
end Go.Proofs.Ytpbffbhebdcpbaa

import Derived.Test.YthbmnaonnebnhaaProg
import Derived.Test.YthbmnaonnebnhaaBase
set_option linter.unusedVariables false
namespace Go.Proofs.Ythbmnaonnebnhaa
open Go.RowKit

/-- places of set bits, counted from i + 1, together -/
def wg : List Bool → Int → Int
  | [], _ => 0
  | b :: l, i => (if b then i + 1 else 0) + wg l (i + 1)
theorem wg_append (a b : List Bool) (i : Int) : wg (a ++ b) i = wg a i + wg b (i + a.length) := by
  induction a generalizing i with
  | nil => simp [wg]
  | cons x a ih =>
    simp only [List.cons_append, wg, ih, List.length_cons]
    rw [show i + 1 + (a.length : Int) = i + ((a.length + 1 : Nat) : Int) from by omega]
    omega
theorem wg_bd (l : List Bool) (i : Int) (h0 : 0 ≤ i) (h : i + l.length ≤ 12) : 0 ≤ wg l i ∧ wg l i ≤ 12 * l.length := by
  induction l generalizing i with
  | nil => simp [wg]
  | cons x a ih =>
    simp only [List.length_cons] at h
    have := ih (i + 1) (by omega) (by omega)
    simp only [wg, List.length_cons]
    split <;> omega
def weighOf (l : List Bool) : Int := wg l 0
theorem weigh_next {l : List Bool} {k : Nat} {x : Bool} (h : l[k]? = some x) : weighOf (l.take (k + 1)) = weighOf (l.take k) + if x then (k : Int) + 1 else 0 := by
  have hk := (List.getElem?_eq_some_iff.1 h).1
  rw [take_next h, weighOf, wg_append]
  simp [weighOf, wg, Nat.min_eq_left (Nat.le_of_lt hk)]
theorem weigh_bd (l : List Bool) (k : Nat) (h : l.length ≤ 12) : 0 ≤ weighOf (l.take k) ∧ weighOf (l.take k) ≤ 144 := by
  have hl : (l.take k).length ≤ l.length := List.length_take_le' _ _
  have := wg_bd (l.take k) 0 (by omega) (by omega)
  unfold weighOf
  omega
def placesOf (l : List Bool) : Int := weighOf l % (l.length + 1)

set_option maxHeartbeats 400000 in
theorem drop_weigh (A : Option Addr) (n c : Nat) (l : List Bool) (b : Int) (w : World) (h : Reads w w.heap.size A n (vb l)) (h0 : n ≤ 12) (hr : Hid (weighOf l = b)) :
    Calls Try.prog 63 #[.slice A n c] w (Ret w (.int .i64 b)) := by
  have H := Lib.hid h.bool_len
  go_enter Try.func63, Try.ntmps63
  go_wp2
  go_loop [3, 8] (fun s i => ∃ k : Nat, k ≤ n ∧ i = .int .i64 k ∧ s = .int .i64 (weighOf (l.take k))) (fun _ i => n - (intOf i).toNat)
  case atStart => exact ⟨0, by omega, rfl, by simp [weighOf, wg]⟩
  case round =>
    obtain ⟨k, hk, rfl, rfl⟩ := hrel
    by_cases hlt : k < n
    · obtain ⟨ad, x, rfl, hb, hx, hc⟩ := h.bool_at hlt
      have hbd := weigh_bd l k (by rw [H.out]; exact h0)
      have HX := Lib.hid (weigh_next hx)
      clear hx
      cases x
      · go_wp2
        go_round
        case rel => exact ⟨k + 1, by omega, by go_num, by rw [HX.out]; simp⟩
        case measure => simp [intOf]; omega
      · go_wp2
        go_round
        case rel => exact ⟨k + 1, by omega, by go_num, by rw [HX.out]; simp⟩
        case measure => simp [intOf]; omega
    · obtain rfl : k = n := by omega
      have ht := List.take_of_length_le (Nat.le_of_eq H.out)
      rw [ht]
      clear ht
      go_wp2
      go_ret
      exact ⟨ret_i hr.out, rfl⟩

set_option maxHeartbeats 400000 in
theorem ref_Places (A : Option Addr) (n c : Nat) (l : List Bool) (b : Int) (w : World) (h : Reads w w.heap.size A n (vb l)) (h0 : n ≤ 12) (hr : Hid (placesOf l = b)) :
    Calls Try.prog 67 #[.slice A n c] w (Ret w (.int .i64 b)) := by
  have H := Lib.hid h.bool_len
  go_enter Try.func67, Try.ntmps67
  go_wp2
  go_loop [3, 8] (fun s i => ∃ k : Nat, k ≤ n ∧ i = .int .i64 k ∧ s = .int .i64 (weighOf (l.take k))) (fun _ i => n - (intOf i).toNat)
  case atStart => exact ⟨0, by omega, rfl, by simp [weighOf, wg]⟩
  case round =>
    obtain ⟨k, hk, rfl, rfl⟩ := hrel
    have hbd := weigh_bd l k (by rw [H.out]; exact h0)
    by_cases hlt : k < n
    · obtain ⟨ad, x, rfl, hb, hx, hc⟩ := h.bool_at hlt
      have HX := Lib.hid (weigh_next hx)
      clear hx
      cases x
      · go_wp2
        go_round
        case rel => exact ⟨k + 1, by omega, by go_num, by rw [HX.out]; simp⟩
        case measure => simp [intOf]; omega
      · go_wp2
        go_round
        case rel => exact ⟨k + 1, by omega, by go_num, by rw [HX.out]; simp; omega⟩
        case measure => simp [intOf]; omega
    · obtain rfl : k = n := by omega
      have ht := List.take_of_length_le (Nat.le_of_eq H.out)
      rw [ht] at hbd ⊢
      clear ht
      go_wp2
      go_ret
      exact ⟨ret_i (by rw [← hr.out, placesOf, H.out]), rfl⟩

def dropSumRes (l : List Bool) : Int × Int := if 12 < l.length then (0, 1) else (placesOf l, 0)
end Go.Proofs.Ythbmnaonnebnhaa

/-
  quipuref.Costs, quipuref.Less, alpha.before.
-/
import Derived.Test.YtglcljlafioleaaAltb
import Derived.Test.YtglcljlafioleaaWeights
import Derived.Test.YtglcljlafioleaaOwnb
import Derived.BigQuiet
import Derived.Deep.QuietTactic
import Derived.IntWalk
set_option linter.unusedVariables false
namespace Go.Proofs.Ytglcljlafioleaa
open Go.RowKit

theorem costL_next {ws l : List Nat} {k w x : Nat} (hw : ws[k]? = some w) (hx : l[k]? = some x) : costL (ws.take (k + 1)) (l.take (k + 1)) = costL (ws.take k) (l.take k) + w * x := by
  have h1 := (List.getElem?_eq_some_iff.1 hw).1
  have h2 := (List.getElem?_eq_some_iff.1 hx).1
  rw [take_next hw, take_next hx, costL_append _ _ _ _ (by rw [List.length_take, List.length_take]; omega)]
  simp [costL]
theorem lessL_at {a b : List Nat} {k x y : Nat} (ht : a.take k = b.take k) (hx : a[k]? = some x) (hy : b[k]? = some y) (hne : x ≠ y) : lessL a b = decide (x < y) := by
  have h1 : a = a.take k ++ x :: a.drop (k + 1) := by rw [← drop_next hx, List.take_append_drop]
  have h2 : b = a.take k ++ y :: b.drop (k + 1) := by rw [ht, ← drop_next hy, List.take_append_drop]
  rw [h1, h2, lessL_append _ _ _ _ rfl, lessL_irr, lessL, if_neg hne]
  simp
set_option maxHeartbeats 800000 in
theorem ref_Costs (A A' : Option Addr) (n c c' : Nat) (ws l : List Nat) (z : Nat) (w : World) {B B' : Nat} (h : Reads w B A n (vn .i64 ws)) (h' : Reads w B' A' n (vn .i64 l)) (hn : n ≤ 8) (hw : ∀ x ∈ ws, x ≤ 1048576) (hl : ∀ x ∈ l, x ≤ 8) (hz : Hid (costL ws l = z)) :
    Calls Try.prog 33 #[.slice A n c, .slice A' n c'] w (RetQ w (.int .i64 (z : Int))) := by
  have H := Lib.hid h.nat_len
  have H' := Lib.hid h'.nat_len
  have HW := Lib.hid hw
  have HX := Lib.hid hl
  clear hw hl
  go_enter Try.func33, Try.ntmps33
  go_wp2
  go_loopw [5, 6] (fun s i wr => ∃ k m : Nat, k ≤ n ∧ i = .int .i64 (k : Int) ∧ s = .int .i64 ((costL (ws.take k) (l.take k) : Nat) : Int) ∧ wr = w.drewN m) (fun _ i _ => n - (intOf i).toNat)
  case atStart => exact ⟨0, 0, by omega, rfl, by simp [costL], rfl⟩
  case round =>
    obtain ⟨k, m, hk, rfl, rfl, rfl⟩ := hrel
    by_cases hlt : k < n
    · obtain ⟨ad, x, rfl, hb, hx, hc⟩ := h.nat_at hlt
      obtain ⟨ad', y, rfl, hb', hy, hc'⟩ := h'.nat_at hlt
      have hx2 := HW.out x (mem_at hx)
      have hy2 := HX.out y (mem_at hy)
      have HN := Lib.hid (costL_next hx hy)
      have hcl := costL_le 1048576 8 (ws.take k) (l.take k) (fun z hz => HW.out z (List.mem_of_mem_take hz)) (fun z hz => HX.out z (List.mem_of_mem_take hz))
      have hlen : (ws.take k).length ≤ 8 := by have := List.length_take_le k ws; omega
      have hs64 : (ws.take k).length * (1048576 * 8) ≤ 8 * (1048576 * 8) := Nat.mul_le_mul_right _ hlen
      obtain ⟨s, hs⟩ : ∃ s, costL (ws.take k) (l.take k) = s := ⟨_, rfl⟩
      obtain ⟨p, hp⟩ : ∃ p, x * y = p := ⟨_, rfl⟩
      rw [hs] at hcl HN ⊢
      rw [hp] at HN
      have hp2 : p ≤ 8388608 := by rw [← hp]; exact Nat.mul_le_mul hx2 hy2
      have e1 : IntKind.i64.wrap ((x : Int) * (y : Int)) = (p : Int) := by rw [← Int.natCast_mul, hp, IntKind.wrap_i64]; omega
      have e2 : IntKind.i64.wrap ((s : Int) + (p : Int)) = ((s + p : Nat) : Int) := by rw [IntKind.wrap_i64]; omega
      have i0 : (0 : Int) ≤ (k : Int) := by omega
      have i1 : (k : Int) < (n : Int) := by omega
      have i2 : k < n := hlt
      clear hx hy hx2 hy2 hcl hlen hs64 hs hp hp2
      go_wp2
      go_quiet (fail)
      go_wp2
      go_roundw
      case rel => exact ⟨k + 1, m + nq, by omega, by go_num, by rw [HN.out]; go_num, by first | rfl | rw [World.drewN_drewN]⟩
      case measure => simp [intOf] <;> omega
    · obtain rfl : n = k := by omega
      have HE : Hid (costL (ws.take n) (l.take n) = z) := by unfold Hid; rw [List.take_of_length_le (Nat.le_of_eq H.out), List.take_of_length_le (Nat.le_of_eq H'.out), hz.out]
      rw [HE.out]
      go_wp2
      go_ret
      exact ⟨rfl, m, rfl⟩
set_option maxHeartbeats 800000 in
theorem ref_Less (A A' : Option Addr) (n c c' : Nat) (a b : List Nat) (z : Bool) (w : World) {B B' : Nat} (h : Reads w B A n (vn .i64 a)) (h' : Reads w B' A' n (vn .i64 b)) (hn : n ≤ 8) (hz : Hid (lessL a b = z)) :
    Calls Try.prog 34 #[.slice A n c, .slice A' n c'] w (RetQ w (.bool z)) := by
  have H := Lib.hid h.nat_len
  have H' := Lib.hid h'.nat_len
  go_enter Try.func34, Try.ntmps34
  go_wp2
  go_loopw [5] (fun i wr => ∃ k m : Nat, k ≤ n ∧ i = .int .i64 (k : Int) ∧ wr = w.drewN m ∧ Hid (a.take k = b.take k)) (fun i _ => n - (intOf i).toNat)
  case atStart => exact ⟨0, 0, by omega, rfl, rfl, rfl⟩
  case round =>
    obtain ⟨k, m, hk, rfl, rfl, hall⟩ := hrel
    by_cases hlt : k < n
    · obtain ⟨ad, x, rfl, hb, hx, hc⟩ := h.nat_at hlt
      obtain ⟨ad', y, rfl, hb', hy, hc'⟩ := h'.nat_at hlt
      have i0 : (0 : Int) ≤ (k : Int) := by omega
      have i1 : (k : Int) < (n : Int) := by omega
      have i2 : k < n := hlt
      by_cases he : x = y
      · subst he
        have ht : ((x : Int) != (x : Int)) = false := by simp
        have HA : Hid (a.take (k + 1) = b.take (k + 1)) := by unfold Hid; rw [take_next hx, take_next hy, hall.out]
        clear hx hy
        go_wp2
        go_quiet (fail)
        go_wp2
        go_roundw
        case rel => exact ⟨k + 1, m + nq, by omega, by go_num, by first | rfl | rw [World.drewN_drewN], HA⟩
        case measure => simp [intOf] <;> omega
      · have ht : ((x : Int) != (y : Int)) = true := by simp; omega
        have HB : Hid (z = decide (x < y)) := by unfold Hid; rw [← hz.out]; exact lessL_at hall.out hx hy he
        clear hx hy he
        go_wp2
        go_quiet (fail)
        go_wp2
        go_quiet (fail)
        go_wp2
        go_ret
        exact ⟨ret_b (by first | (rw [HB.out]; done) | (rw [HB.out]; exact decide_eq_decide.2 ⟨fun h => by omega, fun h => by omega⟩)), by first | exact ⟨_, rfl⟩ | (rw [World.drewN_drewN]; exact ⟨_, rfl⟩) | (rw [World.drewN_drewN, World.drewN_drewN]; exact ⟨_, rfl⟩)⟩
    · obtain rfl : n = k := by omega
      have HB : Hid (z = false) := by
        unfold Hid
        have := hall.out
        rw [List.take_of_length_le (Nat.le_of_eq H.out), List.take_of_length_le (Nat.le_of_eq H'.out)] at this
        rw [← hz.out, this, lessL_irr]
      have hnn : ¬ (n : Int) < (n : Int) := by omega
      go_wp2
      go_ret
      exact ⟨ret_b (by first | (rw [HB.out]; done) | (rw [HB.out]; simp)), m, rfl⟩
set_option maxHeartbeats 800000 in
theorem alpha_before (A A' : Option Addr) (n c c' : Nat) (a b : List Nat) (z : Bool) (w : World) {B B' : Nat} (h : Reads w B A n (vn .i64 a)) (h' : Reads w B' A' n (vn .i64 b)) (hn : n ≤ 8) (hz : Hid (lessL a b = z)) :
    Calls Try.prog 50 #[.slice A n c, .slice A' n c'] w (Ret w (.bool z)) := by
  have H := Lib.hid h.nat_len
  have H' := Lib.hid h'.nat_len
  go_enter Try.func50, Try.ntmps50
  go_wp2
  go_loop [9] (fun i => ∃ k : Nat, k ≤ n ∧ i = .int .i64 (k : Int) ∧ Hid (a.take k = b.take k)) (fun i => n - (intOf i).toNat)
  case atStart => exact ⟨0, by omega, rfl, rfl⟩
  case round =>
    obtain ⟨k, hk, rfl, hall⟩ := hrel
    by_cases hlt : k < n
    · obtain ⟨ad, x, rfl, hb, hx, hc⟩ := h.nat_at hlt
      obtain ⟨ad', y, rfl, hb', hy, hc'⟩ := h'.nat_at hlt
      have i0 : (0 : Int) ≤ (k : Int) := by omega
      have i1 : (k : Int) < (n : Int) := by omega
      by_cases he : x = y
      · subst he
        have ht : ((x : Int) != (x : Int)) = false := by simp
        have HA : Hid (a.take (k + 1) = b.take (k + 1)) := by unfold Hid; rw [take_next hx, take_next hy, hall.out]
        clear hx hy
        go_wp2
        go_round
        case rel => exact ⟨k + 1, by omega, by go_num, HA⟩
        case measure => simp [intOf] <;> omega
      · have ht : ((x : Int) != (y : Int)) = true := by simp; omega
        have HB : Hid (z = decide (x < y)) := by unfold Hid; rw [← hz.out]; exact lessL_at hall.out hx hy he
        clear hx hy he
        go_wp2
        go_ret
        exact ⟨ret_b (by first | (rw [HB.out]; done) | (rw [HB.out]; exact decide_eq_decide.2 ⟨fun h => by omega, fun h => by omega⟩)), rfl⟩
    · obtain rfl : n = k := by omega
      have HB : Hid (z = false) := by
        unfold Hid
        have := hall.out
        rw [List.take_of_length_le (Nat.le_of_eq H.out), List.take_of_length_le (Nat.le_of_eq H'.out)] at this
        rw [← hz.out, this, lessL_irr]
      go_wp2
      go_ret
      exact ⟨ret_b (by rw [HB.out]), rfl⟩
end Go.Proofs.Ytglcljlafioleaa

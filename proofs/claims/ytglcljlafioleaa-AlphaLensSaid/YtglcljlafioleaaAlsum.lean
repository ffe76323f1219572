/-
  (*alpha.best).sum, and the table of alpha.best.
-/
import Derived.Test.YtglcljlafioleaaAltr
import Derived.Test.YtglcljlafioleaaCut
set_option linter.unusedVariables false
namespace Go.Proofs.Ytglcljlafioleaa
open Go.RowKit

theorem sumL_take {l : List Nat} {k x : Nat} (h : l[k]? = some x) : sumL (l.take (k + 1)) = sumL (l.take k) + x := by
  rw [take_next h, sumL_append]; simp [sumL]
theorem segL_reads {w : World} {B n i j : Nat} {ad : Addr} {ws : List Nat} (h : Reads w B (some ad) n (vn .i64 ws)) (hij : i ≤ j) (hj : j ≤ n) : Reads w B (some (ad.add i)) (j - i) (vn .i64 (segL ws i j)) := by
  have h1 := (h.cutFrom (k := i) (by omega)).cutTo (k := j - i) (by omega)
  unfold segL vn
  unfold vn at h1
  rwa [List.map_take, List.map_drop]
set_option maxHeartbeats 800000 in
theorem alpha_sum (hb : Nat) (i j n c : Nat) (A : Option Addr) (ws : List Nat) (z : Nat) (w : World) {B : Nat} (h : Reads w B A n (vn .i64 ws)) (hn : n ≤ 8) (hcap : n ≤ c) (hij : i < j) (hj : j ≤ n) (hw : ∀ x ∈ ws, x ≤ 1048576) (hbox : w.cell? ⟨hb, 0, none⟩ = some (.slice A n c)) (hz : Hid (sumL (segL ws i j) = z)) :
    Calls Try.prog 49 #[.pointer (some ⟨hb, 0, none⟩), .int .i64 (i : Int), .int .i64 (j : Int)] w (Ret w (.int .i64 (z : Int))) := by
  obtain ⟨ad, rfl, _, _⟩ := h.cells (by omega)
  have hs := segL_reads h (Nat.le_of_lt hij) hj
  have H := Lib.hid hs.nat_len
  have HW := Lib.hid fun x (hx : x ∈ segL ws i j) => hw x (segL_mem hx)
  generalize segL ws i j = l at *
  clear hw h
  obtain ⟨m, hm⟩ : ∃ m, m = j - i := ⟨_, rfl⟩
  have e1 : IntKind.i64.wrap ((j : Int) - (i : Int)) = (m : Int) := by rw [IntKind.wrap_i64]; omega
  have e2 : (j : Int) - (i : Int) = (m : Int) := by omega
  rw [← hm] at hs H
  have hm8 : m ≤ 8 := by omega
  have i0 : (0 : Int) ≤ (i : Int) := by omega
  have i1 : (i : Int) ≤ (j : Int) := by omega
  have i2 : (j : Int) ≤ (c : Int) := by omega
  go_enter Try.func49, Try.ntmps49
  go_wp2
  go_loop [7, 18] (fun s i => ∃ k : Nat, k ≤ m ∧ i = .int .i64 (k : Int) ∧ s = .int .i64 ((sumL (l.take k) : Nat) : Int)) (fun _ i => m - (intOf i).toNat)
  case atStart => exact ⟨0, by omega, rfl, by simp [sumL]⟩
  case round =>
    obtain ⟨k, hk, rfl, rfl⟩ := hrel
    by_cases hlt : k < m
    · obtain ⟨ad', x, ea, hb', hx, hc⟩ := hs.nat_at hlt
      injection ea with ea
      subst ea
      have hx2 := HW.out x (mem_at hx)
      have HN := Lib.hid (sumL_take hx)
      have hcl := sumL_le (ws := l.take k) 1048576 (fun z hz => HW.out z (List.mem_of_mem_take hz))
      have hlen : (l.take k).length ≤ 8 := by have := List.length_take_le k l; omega
      have hs64 : (l.take k).length * 1048576 ≤ 8 * 1048576 := Nat.mul_le_mul_right _ hlen
      obtain ⟨s, hs2⟩ : ∃ s, sumL (l.take k) = s := ⟨_, rfl⟩
      rw [hs2] at hcl HN ⊢
      have i3 : (0 : Int) ≤ (k : Int) := by omega
      have i4 : (k : Int) < (m : Int) := by omega
      have hs8 : s ≤ 8388608 := Nat.le_trans hcl (Nat.le_trans hs64 (by decide))
      clear hx hlen hs64 hcl hs2
      go_wp2
      go_round
      case rel => exact ⟨k + 1, by omega, by go_num, by rw [HN.out]; go_num⟩
      case measure => simp [intOf]; omega
    · obtain rfl : m = k := by omega
      have HE : Hid (sumL (l.take m) = z) := by unfold Hid; rw [List.take_of_length_le (Nat.le_of_eq H.out), hz.out]
      rw [HE.out]
      go_wp2
      go_ret
      exact ⟨rfl, rfl⟩
end Go.Proofs.Ytglcljlafioleaa

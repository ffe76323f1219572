/-
  huff.Costs, quipuref.Costs, quipuref.Kraft of what huff.lens tells.
-/
import Derived.Test.YtdidahafbcddeaaHufu
import Derived.Test.YtdidahafbcddeaaHufr
import Derived.Test.YtdidahafbcddeaaKraft
import Derived.Test.YtdidahafbcddeaaQuiet
set_option linter.unusedVariables false
namespace Go.Proofs.Ytdidahafbcddeaa
open Go.RowKit

def costTo (ws L : List Nat) (k : Nat) : Nat := ((List.range k).map fun i => ws.getD i 0 * L.getD i 0).sum
theorem costTo_next (ws L : List Nat) (k : Nat) : costTo ws L (k + 1) = costTo ws L k + ws.getD k 0 * L.getD k 0 := by
  unfold costTo
  rw [List.range_succ, List.map_append, List.sum_append]
  simp
theorem costTo_le (ws L : List Nat) (hw : ∀ x ∈ ws, x ≤ 1048576) (hL : ∀ i, L.getD i 0 ≤ 8) : ∀ k, costTo ws L k ≤ k * 8388608
  | 0 => by simp [costTo]
  | k + 1 => by
    have ih := costTo_le ws L hw hL k
    have h1 : ws.getD k 0 ≤ 1048576 := by
      rw [List.getD_eq_getElem?_getD]
      cases hx : ws[k]? with
      | none => simp
      | some y => exact hw y (List.mem_of_getElem? hx)
    have h2 := Nat.mul_le_mul h1 (hL k)
    rw [costTo_next, Nat.succ_mul]
    omega
section
variable (A A' : Option Addr) (n c c' : Nat) (ws L : List Nat) (w : World) {B B' : Nat} (h : Reads w B A n (vn .i64 ws)) (h' : Reads w B' A' n (vn .i64 L)) (h8 : n ≤ 8) (hw : ∀ x ∈ ws, x ≤ 1048576) (hL : ∀ i, L.getD i 0 ≤ 8)
include h h' h8 hw hL
set_option maxHeartbeats 1600000 in
theorem huff_Costs : Calls Try.prog 36 #[.slice A n c, .slice A' n c'] w (Ret w (.int .i64 ((costTo ws L n : Nat) : Int))) := by
  have HW := Lib.hid hw
  have HL := Lib.hid hL
  have HR := Lib.hid h
  have HR' := Lib.hid h'
  clear h h' hw hL
  go_enter Try.func36, Try.ntmps36
  go_wp2
  go_loop [5, 10] (fun sv iv => ∃ k : Nat, k ≤ n ∧ iv = .int .i64 (k : Int) ∧ sv = .int .i64 ((costTo ws L k : Nat) : Int)) (fun _ iv => n - (intOf iv).toNat)
  case atStart => exact ⟨0, Nat.zero_le _, rfl, rfl⟩
  case round =>
    obtain ⟨k, hk, rfl, rfl⟩ := hrel
    by_cases hlt : k < n
    · obtain ⟨ad, x, rfl, _, hx, hc⟩ := HR.out.nat_at hlt
      obtain ⟨ad', y, rfl, _, hy, hc'⟩ := HR'.out.nat_at hlt
      have hnx := costTo_next ws L k
      rw [show ws.getD k 0 = x by simp [List.getD, hx], show L.getD k 0 = y by simp [List.getD, hy]] at hnx
      have b1 := HW.out x (List.mem_of_getElem? hx)
      have b2 := HL.out k
      rw [show L.getD k 0 = y by simp [List.getD, hy]] at b2
      have b3 := costTo_le ws L HW.out HL.out k
      have b4 := Nat.mul_le_mul b1 b2
      obtain ⟨p, hp⟩ : ∃ p, x * y = p := ⟨_, rfl⟩
      obtain ⟨q, hq⟩ : ∃ q, costTo ws L k = q := ⟨_, rfl⟩
      rw [hp] at b4 hnx
      rw [hq] at b3 hnx ⊢
      have hm : IntKind.i64.wrap ((x : Int) * (y : Int)) = (p : Int) := by
        rw [show (x : Int) * (y : Int) = (p : Int) by rw [← hp]; simp, IntKind.wrap_i64]; omega
      have hm2 : (x : Int) * (y : Int) = (p : Int) := by rw [← hp]; simp
      have b5 : q ≤ 67108864 := by
        have : k * 8388608 ≤ 8 * 8388608 := Nat.mul_le_mul_right _ (by omega)
        omega
      have b6 : p ≤ 8388608 := b4
      have HNX := Lib.hid hnx
      have i0 : (0 : Int) ≤ (k : Int) := by omega
      have i1 : (k : Int) < (n : Int) := by omega
      have hm3 : wrap64 ((x : Int) * (y : Int)) = (p : Int) := by rw [hm2]; exact IntWalk.wrap64_in _ (by omega)
      clear hx hy hnx b1 b2 b3 b4 hp hq hm hm2
      go_wp2
      go_round
      case rel => exact ⟨k + 1, by omega, by go_num, by rw [HNX.out]; go_num⟩
      case measure => simp [intOf] <;> omega
    · obtain rfl : n = k := by omega
      go_wp2
      go_ret
      exact ⟨rfl, rfl⟩
set_option maxHeartbeats 1600000 in
theorem ref_CostsH : Calls Try.prog 15 #[.slice A n c, .slice A' n c'] w (RetQ w (.int .i64 ((costTo ws L n : Nat) : Int))) := by
  have HW := Lib.hid hw
  have HL := Lib.hid hL
  have HR := Lib.hid h
  have HR' := Lib.hid h'
  clear h h' hw hL
  go_enter Try.func15, Try.ntmps15
  go_wp2
  go_loopw [5, 6] (fun sv iv wr => ∃ k m : Nat, k ≤ n ∧ iv = .int .i64 (k : Int) ∧ sv = .int .i64 ((costTo ws L k : Nat) : Int) ∧ wr = w.drewN m) (fun _ iv _ => n - (intOf iv).toNat)
  case atStart => exact ⟨0, 0, Nat.zero_le _, rfl, rfl, rfl⟩
  case round =>
    obtain ⟨k, m, hk, rfl, rfl, rfl⟩ := hrel
    by_cases hlt : k < n
    · obtain ⟨ad, x, rfl, _, hx, hc⟩ := HR.out.nat_at hlt
      obtain ⟨ad', y, rfl, _, hy, hc'⟩ := HR'.out.nat_at hlt
      have hnx := costTo_next ws L k
      rw [show ws.getD k 0 = x by simp [List.getD, hx], show L.getD k 0 = y by simp [List.getD, hy]] at hnx
      have b1 := HW.out x (List.mem_of_getElem? hx)
      have b2 := HL.out k
      rw [show L.getD k 0 = y by simp [List.getD, hy]] at b2
      have b3 := costTo_le ws L HW.out HL.out k
      have b4 := Nat.mul_le_mul b1 b2
      obtain ⟨p, hp⟩ : ∃ p, x * y = p := ⟨_, rfl⟩
      obtain ⟨q, hq⟩ : ∃ q, costTo ws L k = q := ⟨_, rfl⟩
      rw [hp] at b4 hnx
      rw [hq] at b3 hnx ⊢
      have hm2 : (x : Int) * (y : Int) = (p : Int) := by rw [← hp]; simp
      have b5 : q ≤ 67108864 := by
        have : k * 8388608 ≤ 8 * 8388608 := Nat.mul_le_mul_right _ (by omega)
        omega
      have b6 : p ≤ 8388608 := b4
      have HNX := Lib.hid hnx
      have i0 : (0 : Int) ≤ (k : Int) := by omega
      have i1 : (k : Int) < (n : Int) := by omega
      have hm : IntKind.i64.wrap ((x : Int) * (y : Int)) = (p : Int) := by rw [hm2, IntKind.wrap_i64]; omega
      have hs : IntKind.i64.wrap ((q : Int) + (p : Int)) = (q : Int) + (p : Int) := by rw [IntKind.wrap_i64]; omega
      clear hx hy hnx b1 b2 b3 b4 hp hq hm2
      go_wp2
      go_quiet (fail)
      clear hm hs
      go_wp2
      go_roundw
      case rel => exact ⟨k + 1, m + nq, by omega, by go_num, by rw [HNX.out]; go_num, by first | rfl | rw [World.drewN_drewN]⟩
      case measure => simp [intOf] <;> omega
    · obtain rfl : n = k := by omega
      go_wp2
      go_ret
      exact ⟨rfl, m, rfl⟩
end
theorem all_getD (L : List Nat) : (List.range L.length).map (fun i => L.getD i 0) = L := by
  apply List.ext_getElem?
  intro i
  rw [List.getElem?_map]
  rcases Nat.lt_or_ge i L.length with h | h
  · rw [List.getElem?_range h, List.getElem?_eq_getElem h]
    simp [List.getD, List.getElem?_eq_getElem h]
  · rw [List.getElem?_eq_none (by simpa using h), List.getElem?_eq_none h]; rfl
theorem vn_vi (L : List Nat) : vn .i64 L = vi .i64 (L.map fun x : Nat => (x : Int)) := by
  unfold vn vi
  rw [List.map_map]
  rfl
theorem kraft_is (L : List Nat) : kraftOf (L.map fun x : Nat => (x : Int)) = ((((List.range L.length).map fun s => 2 ^ (8 - L.getD s 0)).sum : Nat) : Int) := by
  have h1 : (List.range L.length).map (fun s => 2 ^ (8 - L.getD s 0)) = L.map (fun x => 2 ^ (8 - x)) := by
    conv => rhs; rw [← all_getD L]
    rw [List.map_map]
    rfl
  rw [h1]
  unfold kraftOf
  induction L with
  | nil => rfl
  | cons x L ih =>
    have h2 : (List.range L.length).map (fun s => 2 ^ (8 - L.getD s 0)) = L.map (fun x => 2 ^ (8 - x)) := by
      conv => rhs; rw [← all_getD L]
      rw [List.map_map]
      rfl
    have ih' := ih h2
    simp only [List.map_cons, List.sum_cons, List.map_map] at ih' ⊢
    rw [ih']
    unfold part
    rw [show (8 - (x : Int)).toNat = 8 - x by omega]
    simp
theorem HufE.bd {ws L : List Nat} (h : HufE ws L) (h8 : ws.length ≤ 8) (i : Nat) : L.getD i 0 ≤ 8 := by
  rcases Nat.lt_or_ge i ws.length with h1 | h1
  · have := h.lt i h1; omega
  · rw [List.getD_eq_getElem?_getD, List.getElem?_eq_none (by rw [h.len]; exact h1)]; simp
theorem HufE.ok {ws L : List Nat} (h : HufE ws L) (h8 : ws.length ≤ 8) : lensErr (L.map fun x : Nat => (x : Int)) = 0 := by
  refine lensErr_ok (by rw [List.length_map, h.len]; exact h8) (List.all_eq_true.2 fun x hx => ?_)
  obtain ⟨y, hy, rfl⟩ := List.mem_map.1 hx
  obtain ⟨i, hi⟩ := List.getElem?_of_mem hy
  have := h.bd h8 i
  rw [show L.getD i 0 = y by simp [List.getD, hi]] at this
  simp [okLen]
  omega
theorem HufE.same {ws L : List Nat} {r : Nat} (h : HufE ws L) (hr : HufC ws r) : costN ws L = r := by
  rcases h.least with ⟨e1, e2⟩ | h1
  · rcases hr with ⟨_, e3⟩ | h2
    · rw [e2, e3]
    · subst e1
      exact absurd rfl h2.1.ne
  · rcases hr with ⟨e1, _⟩ | h2
    · subst e1
      exact absurd rfl h1.1.ne
    · exact h1.uniq h2
end Go.Proofs.Ytdidahafbcddeaa

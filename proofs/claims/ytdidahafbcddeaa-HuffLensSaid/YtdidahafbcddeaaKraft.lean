import Derived.Test.YtdidahafbcddeaaProg
import Derived.Test.YtdidahafbcddeaaBase
set_option linter.unusedVariables false
namespace Go.Proofs.Ytdidahafbcddeaa
open Go.RowKit

def okLen (n : Int) : Bool := decide (0 ≤ n) && decide (n ≤ 8)
/-- what is wrong with lengths -/
def lensErr (l : List Int) : Int := if 8 < l.length then 1 else if l.all okLen then 0 else 4
def part (n : Int) : Int := 2 ^ (8 - n).toNat
def kraftOf (l : List Int) : Int := (l.map part).sum

theorem kraftOf_snoc (l : List Int) (x : Int) : kraftOf (l ++ [x]) = kraftOf l + part x := by simp [kraftOf]
theorem part_bd (x : Int) (h0 : 0 ≤ x) : 0 ≤ part x ∧ part x ≤ 256 := by
  unfold part
  have : (8 - x).toNat ≤ 8 := by omega
  have h2 : (2:Int) ^ (8 - x).toNat ≤ 2 ^ 8 := by exact_mod_cast Nat.pow_le_pow_right (by omega) this
  exact ⟨Int.le_of_lt (Int.pow_pos (by omega)), by simpa using h2⟩
theorem kraftOf_bd : ∀ l : List Int, l.all okLen = true → 0 ≤ kraftOf l ∧ kraftOf l ≤ 256 * l.length
  | [], _ => by simp [kraftOf]
  | x :: l, h => by
    simp [okLen] at h
    have h1 := part_bd x h.1.1
    have h2 := kraftOf_bd l (by simp [okLen]; exact h.2)
    simp [kraftOf] at *
    omega

theorem lensErr_big (l : List Int) (h : 8 < l.length) : lensErr l = 1 := by simp [lensErr, h]
theorem lensErr_bad {l : List Int} {k : Nat} {x : Int} (hl : l.length ≤ 8) (hx : l[k]? = some x) (hb : ¬ (0 ≤ x ∧ x ≤ 8)) : lensErr l = 4 := by
  have hm := mem_at hx
  unfold lensErr
  rw [if_neg (by omega), if_neg]
  intro h
  have := List.all_eq_true.1 h x hm
  simp [okLen] at this
  omega
theorem lensErr_ok {l : List Int} (hl : l.length ≤ 8) (h : l.all okLen = true) : lensErr l = 0 := by
  unfold lensErr
  rw [if_neg (by omega), if_pos h]
theorem all_next {l : List Int} {k : Nat} {x : Int} (hx : l[k]? = some x) (h : (l.take k).all okLen = true) (h0 : 0 ≤ x) (h8 : x ≤ 8) : (l.take (k + 1)).all okLen = true := by
  rw [take_next hx]; simp [h]; simp [okLen, h0, h8]
theorem all_of_err {l : List Int} (h : lensErr l = 0) : l.length ≤ 8 ∧ l.all okLen = true := by
  unfold lensErr at h
  split at h
  · omega
  · split at h
    · exact ⟨by omega, by assumption⟩
    · omega

def sumRes (l : List Int) : Int × Int := (if lensErr l = 0 then kraftOf l else 0, lensErr l)

theorem part_step (x : Int) (j : Nat) (h : (j : Int) + x < 8) (hx : 0 ≤ x) : (2:Int) ^ j * 2 = 2 ^ (j + 1) ∧ (2:Int) ^ j ≤ 128 ∧ 0 ≤ (2:Int) ^ j := by
  refine ⟨(Int.pow_succ 2 j).symm, ?_, Int.le_of_lt (Int.pow_pos (by omega))⟩
  have : j ≤ 7 := by omega
  have h2 : (2:Int) ^ j ≤ 2 ^ 7 := by exact_mod_cast Nat.pow_le_pow_right (by omega) this
  simpa using h2
set_option maxHeartbeats 400000 in
theorem ref_Kraft (A : Option Addr) (n c : Nat) (l : List Int) (b : Int) (w : World) (h : Reads w w.heap.size A n (vi .i64 l)) (h0 : Hid (lensErr l = 0)) (hr : Hid (kraftOf l = b)) :
    Calls Try.prog 14 #[.slice A n c] w (Ret w (.int .i64 b)) := by
  have H := Lib.hid h.int_len
  have hn : n ≤ 8 := by rw [← H.out]; exact (all_of_err h0.out).1
  go_enter Try.func14, Try.ntmps14
  go_wp2
  go_loop [3, 10] (fun s i => ∃ k : Nat, k ≤ n ∧ i = .int .i64 k ∧ s = .int .i64 (kraftOf (l.take k))) (fun _ i => n - (intOf i).toNat)
  case atStart => exact ⟨0, by omega, rfl, by simp [kraftOf]⟩
  case round =>
    obtain ⟨k, hk, rfl, rfl⟩ := hrel
    by_cases hlt : k < n
    · obtain ⟨ad, x, rfl, hb, hx, hc⟩ := h.int_at hlt
      have HA := (all_of_err h0.out).2
      have hall : (l.take k).all okLen = true := by
        rw [List.all_eq_true] at HA ⊢; exact fun y hy => HA y (List.mem_of_mem_take hy)
      have hbd := kraftOf_bd _ hall
      have hl : (l.take k).length ≤ k := List.length_take_le _ _
      have hxo : 0 ≤ x ∧ x ≤ 8 := by
        have := List.all_eq_true.1 HA x (mem_at hx); simpa [okLen] using this
      obtain ⟨hx0, hx8⟩ := hxo
      have hp := part_bd x hx0
      have HX := Lib.hid hx
      clear hx hall HA
      go_wp2
      go_loop [6, 7] (fun p q => ∃ j : Nat, x + j ≤ 8 ∧ q = .int .i64 (x + j) ∧ p = .int .i64 (2 ^ j)) (fun _ q => (8 - intOf q).toNat)
      case atStart => exact ⟨0, by omega, by simp, rfl⟩
      case round =>
        obtain ⟨j, hj, rfl, rfl⟩ := hrel
        by_cases h8 : x + j < 8
        · obtain ⟨e1, e2, e3⟩ := part_step x j (by omega) hx0
          have E1 := Lib.hid e1
          clear e1
          go_wp2
          go_round
          case rel => exact ⟨j + 1, by omega, by go_num, by rw [← E1.out]⟩
          case measure => simp [intOf]; omega
        · have hj' : (2:Int) ^ j = part x := by unfold part; congr 1; omega
          rw [hj']
          clear hj'
          go_wp2
          go_round
          case rel => exact ⟨k + 1, by omega, by go_num, by rw [take_next HX.out, kraftOf_snoc]⟩
          case measure => simp [intOf]; omega
    · obtain rfl : k = n := by omega
      have ht := List.take_of_length_le (Nat.le_of_eq H.out)
      rw [ht]
      clear ht
      go_wp2
      go_ret
      exact ⟨ret_i hr.out, rfl⟩

end Go.Proofs.Ytdidahafbcddeaa

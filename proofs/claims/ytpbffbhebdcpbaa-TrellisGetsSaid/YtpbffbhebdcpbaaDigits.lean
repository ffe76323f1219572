import Derived.Test.YtpbffbhebdcpbaaProg
import Derived.Test.YtpbffbhebdcpbaaStore
import Derived.Test.YtpbffbhebdcpbaaCloneBools
import Derived.Test.YtpbffbhebdcpbaaBits
import Derived.Test.YtpbffbhebdcpbaaBit64
set_option linter.unusedVariables false
namespace Go.Proofs.Ytpbffbhebdcpbaa
open Go.RowKit

/-- a number's n bits, the greatest first -/
def digitsL (x n : Nat) : List Bool := (List.range n).map fun j => bitB x (n - 1 - j)
theorem digitsL_len (x n : Nat) : (digitsL x n).length = n := by simp [digitsL]
theorem digitsL_next {x n k : Nat} (h : k < n) : (digitsL x n).take (k + 1) = (digitsL x n).take k ++ [bitB x (n - 1 - k)] := by
  apply take_next
  unfold digitsL; rw [List.getElem?_map, List.getElem?_range h]; rfl
theorem bit_i64 (x i : Nat) (hx : x < 9223372036854775808) : (bits .and .i64 ((x : Int) / 2 ^ i) 1 == 1) = bitB x i := by
  rw [bit_i64' x i hx]; rfl

/-- filled from behind, k of them -/
def fillBack (f : Nat → Bool) (n k : Nat) : List Bool := (List.range n).map fun j => if n - k ≤ j then f j else false
theorem fillBack_zero (f : Nat → Bool) (n : Nat) : fillBack f n 0 = List.replicate n false := by
  apply List.ext_getElem?
  intro j
  unfold fillBack
  rw [List.getElem?_map, List.getElem?_replicate]
  by_cases hj : j < n
  · rw [List.getElem?_range hj]; simp [hj]; intro h; omega
  · rw [List.getElem?_eq_none (by simpa using hj)]; simp [hj]
theorem fillBack_full (f : Nat → Bool) (n : Nat) : fillBack f n n = (List.range n).map f := by
  unfold fillBack
  apply List.map_congr_left
  intro j hj
  rw [if_pos (by omega)]
theorem fillBack_next {f : Nat → Bool} {n k i : Nat} (hi : i = n - 1 - k) (hk : k < n) : (fillBack f n k).set i (f i) = fillBack f n (k + 1) := by
  apply List.ext_getElem?
  intro j
  rw [List.getElem?_set]
  unfold fillBack
  rw [List.length_map, List.length_range]
  by_cases hj : j < n
  · rw [List.getElem?_map, List.getElem?_map, List.getElem?_range hj]
    simp only [Option.map_some]
    by_cases e : i = j
    · rw [if_pos e, if_pos (by omega), ← e, if_pos (by omega)]
    · rw [if_neg e]
      by_cases h2 : n - k ≤ j
      · rw [if_pos h2, if_pos (by omega)]
      · rw [if_neg h2, if_neg (by omega)]
  · rw [if_neg (by omega), List.getElem?_eq_none (by simpa using hj), List.getElem?_eq_none (by simpa using hj)]
theorem fillBack_at {f : Nat → Bool} {n k i : Nat} (hi : i < n) : (fillBack f n k)[i]? = some (if n - k ≤ i then f i else false) := by
  unfold fillBack; rw [List.getElem?_map, List.getElem?_range hi]; rfl

set_option maxHeartbeats 800000 in
theorem ref_Digits (x n : Nat) (w : World) (hx : x < 9223372036854775808) (hn : n ≤ 64) :
    Calls Try.prog 23 #[.int .i64 (x : Int), .int .i64 (n : Int)] w (RetS w 4 (vb (digitsL x n))) := by
  go_enter Try.func23, Try.ntmps23
  go_wp2_with (at_make; refine mkN el_clone_bools rfl _ _ rfl w.heap.size n rfl rfl rfl rfl (by omega) (by unfold maxLen; omega) (Nat.le_refl _) ?_; intro w1 ho1 hb1 hs1)
  have ho1' : Own w1 w.heap.size 4 (.slice (some ⟨w.heap.size, 0, none⟩) n n) (vb (fillBack (fun j => bitB x (n - 1 - j)) n 0)) := by rw [fillBack_zero]; simpa [vb] using ho1
  clear ho1
  generalize (⟨w.heap.size, 0, none⟩ : Addr) = ad at *
  go_loopw [0, 6] (fun y i wr => ∃ k : Nat, k ≤ n ∧ i = .int .i64 ((n : Int) - 1 - k) ∧ y = .int .i64 ((x / 2 ^ k : Nat) : Int) ∧ Own wr w.heap.size 4 (.slice (some ad) n n) (vb (fillBack (fun j => bitB x (n - 1 - j)) n k)) ∧ Below w.heap.size w wr) (fun _ i _ => ((intOf i) + 1).toNat)
  case atStart => exact ⟨0, by omega, by go_num, by simp, ho1', hb1⟩
  case round =>
    obtain ⟨k, hk, rfl, rfl, hown, hb⟩ := hrel
    by_cases hlt : k < n
    · obtain ⟨i, hi⟩ : ∃ i, i = n - 1 - k := ⟨_, rfl⟩
      have hi2 : (n : Int) - 1 - k = (i : Int) := by omega
      have hle : x / 2 ^ k ≤ x := Nat.div_le_self _ _
      have hbit : (((x / 2 ^ k : Nat) : Int) % 2 == 1) = bitB x k := by
        unfold bitB; exact i64_mod2 _
      have hdiv : x / 2 ^ (k + 1) = x / 2 ^ k / 2 := by rw [Nat.pow_succ, Nat.div_div_eq_div_mul]
      have hfz := hown.frozenAt i
      have hset := hown.set i (.bool (bitB x k))
      have hki : bitB x k = (fun j => bitB x (n - 1 - j)) i := by show bitB x k = bitB x (n - 1 - i); rw [hi]; congr 1; omega
      rw [vb_set, hki, fillBack_next hi hlt, ← hki] at hset
      have hbs := hb.trans (hown.setBelow (Nat.le_refl _) i (.bool (bitB x k)))
      have hcell := hown.cell (j := i) (by rw [List.getElem?_map, fillBack_at (by omega)]; rfl)
      have hi4 : i < n := by omega
      have HD := Lib.hid hdiv
      clear hki hi hdiv
      rw [hi2]
      generalize x / 2 ^ k = y at *
      generalize bitB x k = bb at *
      go_wp2
      go_roundw
      case rel => exact ⟨k + 1, by omega, by go_num, by rw [HD.out]; go_num, hset, hbs⟩
      case measure => simp only [intOf]; omega
    · obtain rfl : k = n := by omega
      rw [fillBack_full] at hown
      go_wp2
      go_ret
      exact ⟨some ad, k, k, rfl, hown, hb⟩
end Go.Proofs.Ytpbffbhebdcpbaa

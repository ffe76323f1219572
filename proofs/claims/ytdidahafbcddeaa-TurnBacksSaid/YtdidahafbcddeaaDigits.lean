import Derived.Test.YtdidahafbcddeaaProg
import Derived.Test.YtdidahafbcddeaaStore
import Derived.Test.YtdidahafbcddeaaCloneBools
import Derived.Test.YtdidahafbcddeaaBits
import Derived.Test.YtdidahafbcddeaaBit64
set_option linter.unusedVariables false
namespace Go.Proofs.Ytdidahafbcddeaa
open Go.RowKit

/-- a number's n bits, the greatest first -/
def digitsL (x n : Nat) : List Bool := (List.range n).map fun j => bitB x (n - 1 - j)
theorem digitsL_len (x n : Nat) : (digitsL x n).length = n := by simp [digitsL]
theorem digitsL_next {x n k : Nat} (h : k < n) : (digitsL x n).take (k + 1) = (digitsL x n).take k ++ [bitB x (n - 1 - k)] := by
  apply take_next
  unfold digitsL; rw [List.getElem?_map, List.getElem?_range h]; rfl
theorem bit_i64 (x i : Nat) (hx : x < 9223372036854775808) : (bits .and .i64 ((x : Int) / 2 ^ i) 1 == 1) = bitB x i := by
  rw [bit_i64' x i hx]; rfl

/-- filled from behind, k of them -/
def fillBack (f : Nat → Bool) (n k : Nat) : List Bool := (List.range n).map fun j => if n - k ≤ j then f j else false
theorem fillBack_zero (f : Nat → Bool) (n : Nat) : fillBack f n 0 = List.replicate n false := by
  apply List.ext_getElem?
  intro j
  unfold fillBack
  rw [List.getElem?_map, List.getElem?_replicate]
  by_cases hj : j < n
  · rw [List.getElem?_range hj]; simp [hj]; intro h; omega
  · rw [List.getElem?_eq_none (by simpa using hj)]; simp [hj]
theorem fillBack_full (f : Nat → Bool) (n : Nat) : fillBack f n n = (List.range n).map f := by
  unfold fillBack
  apply List.map_congr_left
  intro j hj
  rw [if_pos (by omega)]
theorem fillBack_next {f : Nat → Bool} {n k i : Nat} (hi : i = n - 1 - k) (hk : k < n) : (fillBack f n k).set i (f i) = fillBack f n (k + 1) := by
  apply List.ext_getElem?
  intro j
  rw [List.getElem?_set]
  unfold fillBack
  rw [List.length_map, List.length_range]
  by_cases hj : j < n
  · rw [List.getElem?_map, List.getElem?_map, List.getElem?_range hj]
    simp only [Option.map_some]
    by_cases e : i = j
    · rw [if_pos e, if_pos (by omega), ← e, if_pos (by omega)]
    · rw [if_neg e]
      by_cases h2 : n - k ≤ j
      · rw [if_pos h2, if_pos (by omega)]
      · rw [if_neg h2, if_neg (by omega)]
  · rw [if_neg (by omega), List.getElem?_eq_none (by simpa using hj), List.getElem?_eq_none (by simpa using hj)]
theorem fillBack_at {f : Nat → Bool} {n k i : Nat} (hi : i < n) : (fillBack f n k)[i]? = some (if n - k ≤ i then f i else false) := by
  unfold fillBack; rw [List.getElem?_map, List.getElem?_range hi]; rfl

end Go.Proofs.Ytdidahafbcddeaa

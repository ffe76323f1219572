import Derived.Test.YtdidahafbcddeaaMulls
import Derived.Test.YtdidahafbcddeaaStore
import Derived.Test.YtdidahafbcddeaaCloneBools
import Derived.Test.YtdidahafbcddeaaBools
set_option linter.unusedVariables false
namespace Go.Proofs.Ytdidahafbcddeaa
open Go.RowKit Go.Shelf Go.Sort

def inU (p x : Nat) : Bool := decide (x &&& p = p)
/-- the sum of the first k products that are set, at x -/
def oddK (data : List Bool) (ps : List Nat) (x : Nat) : Nat → Bool
  | 0 => false
  | k + 1 => oddK data ps x k != (data.getD k false && inU (ps.getD k 0) x)
/-- all places, with p summed up at the first k -/
def addL (l : List Bool) (p k : Nat) : List Bool := (List.range l.length).map fun x => l.getD x false != (decide (x < k) && inU p x)
theorem addL_zero (l : List Bool) (p : Nat) : addL l p 0 = l := by
  unfold addL
  apply List.ext_getElem (by simp)
  intro i h1 h2
  simp [List.getD_eq_getElem?_getD, h2]
theorem addL_len (l : List Bool) (p k : Nat) : (addL l p k).length = l.length := by simp [addL]
theorem addL_at (l : List Bool) (p k : Nat) {x : Bool} (h : l[k]? = some x) : (addL l p k)[k]? = some x := by
  obtain ⟨hk, rfl⟩ := List.getElem?_eq_some_iff.1 h
  unfold addL
  rw [List.getElem?_map, List.getElem?_range hk]
  simp [List.getD_eq_getElem?_getD, hk]
theorem addL_next (l : List Bool) (p k : Nat) {x : Bool} (h : l[k]? = some x) : addL l p (k + 1) = if inU p k then (addL l p k).set k (!x) else addL l p k := by
  obtain ⟨hk, rfl⟩ := List.getElem?_eq_some_iff.1 h
  by_cases hp : inU p k = true
  · rw [if_pos hp]
    unfold addL
    apply List.ext_getElem (by simp)
    intro i h1 h2
    rw [List.getElem_set]
    simp only [List.getElem_map, List.getElem_range]
    by_cases e : k = i
    · subst e
      rw [if_pos rfl, hp]
      simp [List.getD_eq_getElem?_getD, hk]
    · rw [if_neg e]
      by_cases e2 : i < k
      · have : i < k + 1 := by omega
        simp [e2, this]
      · have : ¬ i < k + 1 := by omega
        simp [e2, this]
  · rw [if_neg hp]
    unfold addL
    apply List.ext_getElem (by simp)
    intro i h1 h2
    simp only [List.getElem_map, List.getElem_range]
    by_cases e : k = i
    · subst e
      have : inU p k = false := by simpa using hp
      rw [this]; simp
    · by_cases e2 : i < k
      · have : i < k + 1 := by omega
        simp [e2, this]
      · have : ¬ i < k + 1 := by omega
        simp [e2, this]
theorem in_test (x p : Nat) (hx : x < 1000) (hp : p < 1000) : (bits .and .i64 (x : Int) (p : Int) == (p : Int)) = inU p x := by
  rw [i64_and_nat x p (by omega) (by omega)]
  unfold inU
  rw [Bool.eq_iff_iff]; simp; omega
set_option maxHeartbeats 800000 in
theorem mul_add (ad : Addr) (N c p : Nat) (l : List Bool) {base : Nat} (w : World) (hown : Own w base 4 (.slice (some ad) N c) (vb l)) (hp : p < 16) (hN : N ≤ 16) (hbase : base ≤ w.heap.size) :
    Calls Try.prog 28 #[.slice (some ad) N c, .int .i64 (p : Int)] w fun e w' => e = .returned (.tuple #[]) ∧ Own w' base 4 (.slice (some ad) N c) (vb (addL l p N)) ∧ w.grownBy w' (some ad.block) := by
  have H := Lib.hid hown.reads.bool_len
  go_enter Try.func28, Try.ntmps28
  go_wp2
  go_loopw [7] (fun i wr => ∃ k : Nat, k ≤ N ∧ i = .int .i64 k ∧ Own wr base 4 (.slice (some ad) N c) (vb (addL l p k)) ∧ w.grownBy wr (some ad.block)) (fun i _ => N - (intOf i).toNat)
  case atStart => exact ⟨0, by omega, rfl, (by rw [addL_zero]; exact hown), World.grownBy.refl _ _⟩
  case round =>
    clear hown
    obtain ⟨k, hk, rfl, hown, hg⟩ := hrel
    by_cases hlt : k < N
    · obtain ⟨x, hx⟩ : ∃ x, l[k]? = some x := ⟨l[k]'(by rw [H.out]; exact hlt), List.getElem?_eq_getElem _⟩
      have hn := addL_next l p k hx
      have hcell := hown.cell (j := k) (u := .bool x) (by rw [List.getElem?_map, addL_at l p k hx]; rfl)
      have hfz := hown.frozenAt k
      have ht := in_test k p (by omega) (by omega)
      have hset := hown.set k (.bool (!x))
      rw [vb_set] at hset
      have hgs : w.grownBy (wr.setCell (ad.add k) (.bool (!x))) (some ad.block) := by
        have hb := (Below.refl 0 wr).setCell (Nat.zero_le (ad.add k).block) (.bool (!x))
        refine hg.trans ⟨hb.os, hb.tape, hb.output, hb.size, fun q hq hne => Below.heap_setCell wr (ad.add k) _ q (fun e => hne (by rw [e, block_of_add]))⟩
      have i1 : (k : Int) < (N : Int) := by omega
      have i0 : (0 : Int) ≤ (k : Int) := by omega
      clear hx
      cases hq : inU p k with
      | true =>
        rw [hq, if_pos rfl] at hn
        rw [← hn] at hset
        rw [hq] at ht
        clear hn hq
        go_wp2
        go_roundw
        case rel => exact ⟨k + 1, by omega, by go_num, hset, hgs⟩
        case measure => simp [intOf]; omega
      | false =>
        rw [hq] at hn ht
        simp only [Bool.false_eq_true, if_false] at hn
        rw [← hn] at hown
        clear hn hq
        go_wp2
        go_roundw
        case rel => exact ⟨k + 1, by omega, by go_num, hown, hg⟩
        case measure => simp [intOf]; omega
    · obtain rfl : k = N := by omega
      go_wp2
      go_end0
      exact ⟨rfl, hown, hg⟩
/-- all places, by the first k products -/
def mulL (data : List Bool) (ps : List Nat) (M k : Nat) : List Bool := (List.range M).map fun x => oddK data ps x k
theorem mulL_zero (data : List Bool) (ps : List Nat) (M : Nat) : mulL data ps M 0 = List.replicate M false := by
  unfold mulL
  apply List.ext_getElem (by simp)
  intro i h1 h2
  simp [oddK]
theorem mulL_len (data : List Bool) (ps : List Nat) (M k : Nat) : (mulL data ps M k).length = M := by simp [mulL]
theorem mulL_next {data : List Bool} {ps : List Nat} {M k p : Nat} {b : Bool} (hb : data[k]? = some b) (hp : ps[k]? = some p) : mulL data ps M (k + 1) = if b then addL (mulL data ps M k) p M else mulL data ps M k := by
  cases b
  · simp only [Bool.false_eq_true, if_false]
    unfold mulL
    apply List.map_congr_left
    intro x _
    rw [oddK, List.getD_eq_getElem?_getD, hb]; simp
  · rw [if_pos rfl]
    unfold mulL addL
    apply List.ext_getElem (by simp)
    intro i h1 h2
    have hi : i < M := by simpa using h1
    simp only [List.getElem_map, List.getElem_range, List.length_map, List.length_range]
    rw [oddK, List.getD_eq_getElem?_getD, hb, List.getD_eq_getElem?_getD, hp]
    simp [List.getD_eq_getElem?_getD, hi]
theorem prodU_lt (r M : Nat) : ∀ p ∈ prodU r M, p < M := by
  intro p hp
  unfold prodU at hp
  obtain ⟨d, _, hp⟩ := List.mem_flatMap.1 hp
  exact List.mem_range.1 (List.mem_filter.1 hp).1
theorem prodU_len (r m : Nat) (hm : m ≤ 4) (hr : r ≤ m) : (prodU r (2 ^ m)).length ≤ 80 := by
  have e : prodU r (2 ^ m) = prodK (2 ^ m) (r + 1) 0 := by unfold prodU prodK; simp
  rw [e]
  have h1 := prodK_len (2 ^ m) (r + 1) 0
  have h2 : 2 ^ m ≤ 16 := Nat.pow_le_pow_right (n := 2) (by omega) hm
  have h3 : (r + 1) * 2 ^ m ≤ 5 * 16 := Nat.mul_le_mul (by omega) h2
  omega
end Go.Proofs.Ytdidahafbcddeaa

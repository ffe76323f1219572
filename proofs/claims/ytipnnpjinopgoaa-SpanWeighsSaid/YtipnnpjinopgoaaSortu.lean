/-
  slices.Sort of a slice of words that the call made: it then holds them in order.
-/
import Derived.Test.YtipnnpjinopgoaaSuT
import Derived.Test.YtipnnpjinopgoaaOwn
import Derived.Sort.Grow
set_option linter.unusedVariables false
namespace Go.Proofs.Ytipnnpjinopgoaa
open Go.RowKit Go.Sort

section
variable {α : Type} [Inhabited α] (enc : α → Value)
theorem holds_own {w : World} {g : Nat} {cur : Array Value} {e : TypeId} {ss : List α} (hb : w.heap[g]? = some (.cells cur e (0, 0))) (ht : cur.toList.take ss.length = ss.map enc) : Holds enc w g 0 ss.toArray := by
  intro j hj
  have hj' : j < ss.length := by simpa using hj
  refine ⟨?_, by simp [World.frozen?, hb]⟩
  have h1 : (cur.toList.take ss.length)[j]? = (ss.map enc)[j]? := by rw [ht]
  rw [List.getElem?_take_of_lt hj'] at h1
  simp only [World.cell?, hb, Nat.zero_add]
  simp only [Option.isSome_none, Bool.false_eq_true, if_false]
  rw [← Array.getElem?_toList, h1]
  simp [hj']
theorem heap_put {w : World} {g n : Nat} {os : Array Obj} {cur : Array Value} {e : TypeId} {fr : Nat × Nat} (d : Array α) (hb : w.heap[g]? = some (.cells cur e fr)) :
    (grow (putRow enc (Sort.ahead w n) g 0 d) os).heap[g]? = some (.cells (putCells enc 0 d cur) e fr) := by
  have hg : g < w.heap.size := (Array.getElem?_eq_some_iff.1 hb).1
  rw [heap_grow_old _ _ (by simpa using hg)]
  simp [putRow, mapBlock, Sort.ahead, Array.getElem?_modify, hb, onCells]
theorem grownBy_put {w : World} {g n : Nat} {os : Array Obj} (d : Array α) : w.grownBy (grow (putRow enc (Sort.ahead w n) g 0 d) os) (some g) := by
  refine ⟨rfl, rfl, rfl, by simp, fun k hk hne => ?_⟩
  rw [heap_grow_old _ _ (by simpa using hk)]
  have : g ≠ k := fun e => hne (by rw [e])
  simp [putRow, mapBlock, Sort.ahead, Array.getElem?_modify, this]
theorem take_put (cur : Array Value) (ts : List α) (h : ts.length ≤ cur.size) : (putCells enc 0 ts.toArray cur).toList.take ts.length = ts.map enc := by
  apply List.ext_getElem?
  intro j
  by_cases hj : j < ts.length
  · rw [List.getElem?_take_of_lt hj, Array.getElem?_toList]
    simp [putCells, hj, show j < cur.size by omega]
  · rw [List.getElem?_take_eq_none (by omega), List.getElem?_eq_none (by simp; omega)]
end
theorem nats_back (l : List Int) (h : ∀ z ∈ l, 0 ≤ z) : vn .u32 (l.map Int.toNat) = vi .u32 l := by
  unfold vn vi
  rw [List.map_map]
  apply List.map_congr_left
  intro z hz
  have := h z hz
  simp [Int.toNat_of_nonneg this]
/-- behind the call the row holds r, which has the same words, in order -/
def SortedW (w : World) (base : Nat) (v : Value) (l : List Nat) (e : Ending) (w' : World) : Prop :=
  e = .returned (.tuple #[]) ∧ ∃ r : List Nat, r.Perm l ∧ r.Pairwise (fun x y => x ≤ y) ∧ Own w' base 36 v (vn .u32 r) ∧ Below base w w'
theorem sort_words (g n c base : Nat) (l : List Nat) (w : World) (hn46 : n ≤ 4096) (ho : Own w base 36 (.slice (some ⟨g, 0, none⟩) n c) (vn .u32 l)) :
    Calls Try.prog 23 #[.slice (some ⟨g, 0, none⟩) n c] w (SortedW w base (.slice (some ⟨g, 0, none⟩) n c) l) := by
  have hl : (vn .u32 l).length = n := ho.len
  have hl2 : l.length = n := by rwa [List.length_map] at hl
  obtain ⟨zs, hzs⟩ : ∃ zs : List Int, zs = l.map fun x : Nat => (x : Int) := ⟨_, rfl⟩
  have hzl : zs.length = n := by rw [hzs, List.length_map, hl2]
  have hvz : vn .u32 l = zs.map (Value.int .u32) := by rw [hzs]; unfold vn; rw [List.map_map]; rfl
  rcases ho.2 with ⟨e, h0⟩ | ⟨g', cap, cur, e, hbg, hh, hnc, hcm, hsz, ht⟩
  · simp at e
  · injection e with e1 e2 e3
    injection e1 with e1
    injection e1 with e1
    subst e1
    subst e3
    rw [hl, Nat.mul_one] at ht
    have hH : Holds (Value.int .u32) w g 0 zs.toArray := holds_own _ hh (by rw [hzl, ht, hvz])
    have hg : g < w.heap.size := (Array.getElem?_eq_some_iff.1 hh).1
    have hm : n ≤ maxLen := by omega
    unfold maxLen at hm
    have hc := Su.slices_Sort_int g 0 c zs w hH hg (by omega)
    rw [hzl] at hc
    refine hc.mono ?_
    rintro e w' ⟨rfl, k, os, rfl⟩
    obtain ⟨rs, hrs⟩ : ∃ rs, rs = zs.mergeSort fun x y => decide (x ≤ y) := ⟨_, rfl⟩
    rw [← hrs]
    have hperm : rs.Perm zs := by rw [hrs]; exact List.mergeSort_perm _ _
    have hsort : rs.Pairwise fun x y => x ≤ y := by
      have := List.pairwise_mergeSort (le := fun x y : Int => decide (x ≤ y)) (fun a b c h1 h2 => by simp at *; omega) (fun a b => by simp; omega) zs
      rw [← hrs] at this
      exact this.imp fun h => by simpa using h
    have hnn : ∀ z ∈ rs, 0 ≤ z := by
      intro z hz
      have hz2 := hperm.mem_iff.1 hz
      rw [hzs] at hz2
      obtain ⟨x, _, rfl⟩ := List.mem_map.1 hz2
      omega
    have hrl : rs.length = n := by rw [hperm.length_eq, hzl]
    refine ⟨rfl, rs.map Int.toNat, ?_, ?_, ?_, grown_below (grownBy_put _ _) (by omega) (fun j hj => by injection hj with hj; omega)⟩
    · have h1 := hperm.map Int.toNat
      rw [hzs, List.map_map] at h1
      have h2 : l.map (Int.toNat ∘ fun x : Nat => (x : Int)) = l := by
        conv => rhs; rw [← List.map_id l]
        apply List.map_congr_left
        intro x _
        simp
      rwa [h2] at h1
    · rw [List.pairwise_map]
      exact hsort.imp fun h => by omega
    · rw [nats_back rs hnn]
      refine ⟨by simp, .inr ⟨g, c, _, by simp [hrl], hbg, heap_put _ _ hh, by simp [hrl]; omega, hcm, by simp [putCells, hsz], ?_⟩⟩
      rw [List.length_map, Nat.mul_one]
      exact take_put _ cur rs (by rw [hrl, hsz]; omega)
end Go.Proofs.Ytipnnpjinopgoaa

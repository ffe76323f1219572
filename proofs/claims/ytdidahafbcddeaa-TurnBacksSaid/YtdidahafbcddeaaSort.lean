/-
  slices.SortStableFunc at a slice of ints of the call's own, of at most 19 elements, which are read as values of any type.
-/
import Derived.Test.YtdidahafbcddeaaIns
import Derived.Test.YtdidahafbcddeaaStore
import Derived.Sort.OwnSorted
import Derived.Sort.LotA
set_option linter.unusedVariables false
namespace Go.Proofs.Ytdidahafbcddeaa
open Go.RowKit Go.Shelf Go.Sort

section
variable {α : Type} [Inhabited α]
theorem insInner_sz (lt : α → α → Bool) (a : Nat) : ∀ (j : Nat) (d : Array α), (insInner lt a j d).size = d.size
  | 0, d => by rw [insInner]
  | j + 1, d => by
    rw [insInner]
    split
    · rw [insInner_sz lt a j, swp_size]
    · rfl
theorem insOuter_sz (lt : α → α → Bool) (a b : Nat) : ∀ (k i : Nat) (d : Array α), b - i = k → (insOuter lt a b i d).size = d.size
  | 0, i, d, hk => by rw [insOuter, if_neg (by omega)]
  | k + 1, i, d, hk => by rw [insOuter, if_pos (by omega), insOuter_sz lt a b k (i + 1) _ (by omega), insInner_sz]
theorem insertionSort_sz (lt : α → α → Bool) (d : Array α) (a b : Nat) : (insertionSort lt d a b).size = d.size := insOuter_sz lt a b _ _ d rfl
theorem holds_own {w : World} {base : Nat} {E : TypeId} {g N cap : Nat} (enc : α → Value) {xs : List α} (h : Own w base E (.slice (some ⟨g, 0, none⟩) N cap) (xs.map enc)) : Holds enc w g 0 xs.toArray := by
  intro j hj
  have hj' : j < xs.length := by simpa using hj
  have hu : (xs.map enc)[j]? = some (enc xs.toArray[j]!) := by simp [hj']
  rw [Nat.zero_add, ← add_row]
  exact ⟨h.cell hu, h.frozenAt j⟩
theorem heap_put {w : World} {g : Nat} {cur : Array Value} {e : TypeId} {fr : Nat × Nat} (enc : α → Value) (d : Array α) (hb : w.heap[g]? = some (.cells cur e fr)) : (putRow enc w g 0 d).heap[g]? = some (.cells (putCells enc 0 d cur) e fr) := by
  simp [putRow, mapBlock, Array.getElem?_modify, hb, onCells]
theorem grownBy_put {w : World} {g n : Nat} {os : Array Obj} (enc : α → Value) (d : Array α) : w.grownBy (grow (putRow enc (Sort.ahead w n) g 0 d) os) (some g) := by
  refine ⟨rfl, rfl, rfl, by simp, fun k hk hne => ?_⟩
  rw [heap_grow_old _ _ (by simpa using hk)]
  have : g ≠ k := fun e => hne (by rw [e])
  simp [putRow, mapBlock, Sort.ahead, Array.getElem?_modify, this]
theorem take_put (enc : α → Value) (cur : Array Value) (ts : List α) (h : ts.length ≤ cur.size) : (putCells enc 0 ts.toArray cur).toList.take ts.length = ts.map enc := by
  apply List.ext_getElem?
  intro j
  by_cases hj : j < ts.length
  · rw [List.getElem?_take_of_lt hj, Array.getElem?_toList]
    simp [putCells, hj, show j < cur.size by omega]
  · rw [List.getElem?_take_eq_none (by omega), List.getElem?_eq_none (by simp; omega)]
theorem own_put {w : World} {base : Nat} {E : TypeId} {g N cap : Nat} (enc : α → Value) {xs : List α} (h : Own w base E (.slice (some ⟨g, 0, none⟩) N cap) (xs.map enc)) (ys : List α) (hl : ys.length = N) :
    Own (putRow enc w g 0 ys.toArray) base E (.slice (some ⟨g, 0, none⟩) N cap) (ys.map enc) := by
  have hN := h.len
  rcases h.2 with ⟨e, _⟩ | ⟨g', cap', cur, e, hbase, hb, h1, h2, h3, h4⟩
  · simp at e
  · injection e with e1 e2 e3
    injection e1 with e1
    injection e1 with e1
    subst e1 e3
    refine ⟨by simp [hl], .inr ⟨g, cap, putCells enc 0 ys.toArray cur, by simp [hl], hbase, heap_put enc _ hb, ?_, h2, by simp [putCells, h3], ?_⟩⟩
    · rw [List.length_map, hl]; omega
    · rw [Nat.mul_one, List.length_map]
      exact take_put enc cur ys (by omega)
end

set_option maxRecDepth 100000 in
set_option maxHeartbeats 800000 in
theorem sort_stableE {α : Type} [Inhabited α] (enc : α → Value) (hO : OneCell enc) (cf : α → α → Int) (g : Nat) (cb : Array Value) (blk off cap N : Nat) (d : Array α) (w : World) (hN : Hid (d.size = N)) (hN19 : N ≤ 19)
    (eg : ∀ args w, (callFunc g args).run Try.prog w = .ok (.enter g args) w) (hcmp : CmpReads Try.prog g cb enc cf blk off d.size w) (hH : Holds enc w blk off d) :
    Calls Try.prog 38 #[.slice (some ⟨blk, off, none⟩) N cap, .func (.func g) #[] cb] w fun e w' =>
      e = .returned (.tuple #[]) ∧ ∃ n, w' = (putRow enc w blk off (Sort.insertionSort (ltOf cf) d 0 d.size)).drewN n := by
  have c0 := Any.insertionSortCmpFunc_one laysIns enc hO cf g cb blk off cap 0 d.size d w eg hcmp hH (Nat.zero_le _) (Nat.le_refl _) (by rw [hN.out]; omega)
  have c1 : Calls Try.prog 56 #[.slice (some ⟨blk, off, none⟩) N cap, .int .i64 (N : Int), .func (.func g) #[] cb] w fun e w' =>
      e = .returned (.tuple #[]) ∧ ∃ n, w' = (putRow enc w blk off (Sort.insertionSort (ltOf cf) d 0 d.size)).drewN n := by
    have c0 : Calls Try.prog 66 #[.slice (some ⟨blk, off, none⟩) N cap, .int .i64 0, .int .i64 (N : Int), .func (.func g) #[] cb] w fun e w' =>
      e = .returned (.tuple #[]) ∧ ∃ n, w' = (putRow enc w blk off (Sort.insertionSort (ltOf cf) d 0 d.size)).drewN n := by rw [← hN.out]; exact c0
    generalize Sort.insertionSort (ltOf cf) d 0 d.size = r at *
    clear hcmp hH eg
    go_enter Try.func56, Try.ntmps56
    go_wp2
    refine wp_loop_rounds 1 ?_
    rw [rounds_succ]
    go_wp2_with (go_at_call 66; refine c0.mono ?_; clear c0; rintro e w' ⟨rfl, n, rfl⟩)
    refine wp_loop_rounds 1 ?_
    rw [rounds_succ]
    go_wp2
    go_end0
    exact ⟨rfl, n, rfl⟩
  generalize Sort.insertionSort (ltOf cf) d 0 d.size = r at *
  clear hcmp hH eg c0
  go_enter Try.func38, Try.ntmps38
  go_wp2_with (go_at_call 56; refine c1.mono ?_; clear c1; rintro e w' ⟨rfl, n, rfl⟩)
  go_end0
  exact ⟨rfl, n, rfl⟩

theorem own_stable {α : Type} [Inhabited α] (enc : α → Value) (hO : OneCell enc) (cf : α → α → Int) (g : Nat) (cb : Array Value) {base : Nat} {E : TypeId} (A : Addr) (N cap : Nat) (xs : List α) (w : World)
    (hown : Own w base E (.slice (some A) N cap) (xs.map enc)) (hN19 : N ≤ 19) (eg : ∀ args w, (callFunc g args).run Try.prog w = .ok (.enter g args) w)
    (hcmp : ∀ W, w.grownBy W (some A.block) → ∀ x y : α, Calls Try.prog g (#[enc x, enc y] ++ cb) W fun e w' => e = .returned (.int .i64 (cf x y)) ∧ ∃ q, w' = W.drewN q) :
    Calls Try.prog 38 #[.slice (some A) N cap, .func (.func g) #[] cb] w fun e w' =>
      e = .returned (.tuple #[]) ∧ Own w' base E (.slice (some A) N cap) ((Sort.insertionSort (ltOf cf) xs.toArray 0 N).toList.map enc) ∧ w.grownBy w' (some A.block) := by
  obtain ⟨g0, rfl, _, _⟩ := hown.addr
  have hl := hown.len
  rw [List.length_map] at hl
  have hs : xs.toArray.size = N := by simpa using hl
  have c := sort_stableE enc hO cf g cb g0 0 cap N xs.toArray w hs hN19 eg (fun m os dk hdk x y => hcmp _ (grownBy_put enc dk) x y) (holds_own enc hown)
  refine c.mono ?_
  rintro e w' ⟨rfl, n, rfl⟩
  rw [hs]
  have hsz : (Sort.insertionSort (ltOf cf) xs.toArray 0 N).toList.length = N := by
    rw [Array.length_toList, insertionSort_sz, hs]
  refine ⟨rfl, ?_, ?_⟩
  · have := (own_put enc hown (Sort.insertionSort (ltOf cf) xs.toArray 0 N).toList hsz).drewN n
    rwa [Array.toArray_toList] at this
  · have := grownBy_put (w := w) (g := g0) (n := 0) (os := #[]) enc (Sort.insertionSort (ltOf cf) xs.toArray 0 N)
    rw [grow_empty, Sort.ahead_zero] at this
    exact ⟨this.os, this.tape, this.output, this.size, this.block⟩
end Go.Proofs.Ytdidahafbcddeaa

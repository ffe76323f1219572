/-
  Which places are there, and what both polynomials come to. Plain words.
-/
import Derived.Test.YthbmnaonnebnhaaThrq
import Derived.Test.YthbmnaonnebnhaaOff
import Derived.Test.YthbmnaonnebnhaaPtsIdx
import Derived.Test.YthbmnaonnebnhaaFieldc
set_option linter.unusedVariables false
namespace Go.Proofs.Ythbmnaonnebnhaa
open Go.RowKit

def presL (lost : List Bool) (q : Nat) : List Nat := (List.range q).filter fun j => !(lost.getD j false)
theorem presL_next_lost {lost : List Bool} {q : Nat} (h : lost[q]? = some true) : presL lost (q + 1) = presL lost q := by
  unfold presL
  rw [List.range_succ, List.filter_append]
  simp [h]
theorem presL_next {lost : List Bool} {q : Nat} (h : lost[q]? = some false) : presL lost (q + 1) = presL lost q ++ [q] := by
  unfold presL
  rw [List.range_succ, List.filter_append]
  simp [h]
theorem presL_mem {lost : List Bool} {q j : Nat} : j ∈ presL lost q ↔ j < q ∧ lost.getD j false = false := by
  unfold presL; rw [List.mem_filter, List.mem_range]; simp
theorem presL_nodup (lost : List Bool) (q : Nat) : (presL lost q).Nodup := List.Nodup.sublist List.filter_sublist List.nodup_range
theorem presL_le (lost : List Bool) (q : Nat) : (presL lost q).length ≤ q := by
  have := List.length_filter_le (fun j => !(lost.getD j false)) (List.range q)
  simpa [presL] using this
def badJ (l : List Int) (lost : List Bool) (j : Nat) : Bool := !(lost.getD j false) && badF (l.getD j 0)
def misB (l : List Int) (d P : List Nat) : Bool := P.any fun j => ((horn (j + 1) d : Nat) : Int) != l.getD j 0
theorem misB_false {l : List Int} {d P : List Nat} : misB l d P = false ↔ ∀ j ∈ P, ((horn (j + 1) d : Nat) : Int) = l.getD j 0 := by
  unfold misB
  rw [List.any_eq_false]
  simp
theorem misB_off {l : List Int} {lost : List Bool} {d : List Nat} {n : Nat} : decide (0 < cntO (offB l lost d) n) = misB l d (presL lost n) := by
  rcases h : misB l d (presL lost n) with _ | _
  · have h1 := misB_false.1 h
    have : cntO (offB l lost d) n = 0 := cntO_zero.2 fun j hj => by
      unfold offB
      rcases hl : lost.getD j false with _ | _
      · have := h1 j (presL_mem.2 ⟨hj, hl⟩); simp [this]
      · simp
    rw [this]; rfl
  · rcases Nat.eq_zero_or_pos (cntO (offB l lost d) n) with h1 | h1
    · exfalso
      have h2 := cntO_zero.1 h1
      have : misB l d (presL lost n) = false := misB_false.2 fun j hj => by
        obtain ⟨hj1, hj2⟩ := presL_mem.1 hj
        have := h2 j hj1
        unfold offB at this
        rw [hj2] at this
        simpa using this
      rw [this] at h; cases h
    · simp [h1]
/-- both ways come to one -/
theorem both_ways {l : List Int} {P : List Nat} {k : Nat} (hok : okPs P) (hnd : P.Nodup) (hl : ∀ j ∈ P, 0 ≤ l.getD j 0 ∧ l.getD j 0 < 16) (hk : k ≤ P.length) :
    misB l (nwK (lvI l) (P.reverse.take k) k) P = misB l (lagL (lvI l) (P.take k) (P.take k)) P ∧
    (misB l (lagL (lvI l) (P.take k) (P.take k)) P = false → lagL (lvI l) (P.take k) (P.take k) = nwK (lvI l) (P.reverse.take k) k) := by
  have hl2 : ∀ j ∈ P, lvI l j < 16 := fun j hj => by have := hl j hj; unfold lvI; omega
  have hin1 : ∀ j ∈ P.take k, j ∈ P := fun j hj => List.mem_of_mem_take hj
  have hin2 : ∀ j ∈ P.reverse.take k, j ∈ P := fun j hj => List.mem_reverse.1 (List.mem_of_mem_take hj)
  have hn1 : (P.take k).Nodup := hnd.sublist (List.take_sublist _ _)
  have hn2 : (P.reverse.take k).Nodup := (show P.reverse.Nodup from List.pairwise_reverse.2 (hnd.imp fun h => Ne.symm h)).sublist (List.take_sublist _ _)
  have hL1 : (P.take k).length = k := by rw [List.length_take]; omega
  have hL2 : (P.reverse.take k).length = k := by rw [List.length_take, List.length_reverse]; omega
  obtain ⟨a1, b1, c1⟩ := lag_eval (lv := lvI l) (all := P.take k) (fun j hj => hok j (hin1 j hj)) (fun j hj => hl2 j (hin1 j hj)) hn1
  obtain ⟨a2, b2, c2⟩ := nw_props (lv := lvI l) (all := P.reverse.take k) (fun j hj => hok j (hin2 j hj)) (fun j hj => hl2 j (hin2 j hj)) hn2 k (by omega)
  rw [List.take_of_length_le (by omega)] at c2
  have hnat : ∀ {d : List Nat}, misB l d P = false → ∀ j ∈ P, horn (j + 1) d = lvI l j := fun hd j hj => by
    have h1 := misB_false.1 hd j hj
    unfold lvI; omega
  generalize lagL (lvI l) (P.take k) (P.take k) = d at *
  generalize nwK (lvI l) (P.reverse.take k) k = e at *
  have key1 : misB l d P = false → d = e := fun h =>
    thr_same (lv := lvI l) (P := P) (Q := P.reverse.take k) (fun j hj => hok j (hin2 j hj)) hn2 a1 a2 (by omega) (by omega) (fun j hj => hnat h j (hin2 j hj)) c2
  have key2 : misB l e P = false → d = e := fun h =>
    thr_same (lv := lvI l) (P := P) (Q := P.take k) (fun j hj => hok j (hin1 j hj)) hn1 a1 a2 (by omega) (by omega) c1 (fun j hj => hnat h j (hin1 j hj))
  refine ⟨?_, key1⟩
  rcases h1 : misB l d P with _ | _
  · rw [← key1 h1, h1]
  · rcases h2 : misB l e P with _ | _
    · rw [key2 h2, h2] at h1; exact h1
    · rfl
/-- what points.Fill asks at a place -/
theorem points_Fill1 (p1 p2 : Addr) (A A' : Option Addr) (n c c' i : Nat) (xs : List Nat) (l : List Int) (b : Bool) (w : World) {B B' : Nat} (hc1 : w.cell? p1 = some (.slice A' n c')) (hc2 : w.cell? p2 = some (.slice A n c)) (h' : Reads w B' A' n (vn .i64 xs)) (h : Reads w B A n (vi .i64 l)) (hi : i < n) (hn : n ≤ 9) (hb : Hid ((((xs.getD i 0 : Nat) : Int) != l.getD i 0) = b)) :
    Calls Try.prog 58 #[.int .i64 (i : Int), .pointer (some p1), .pointer (some p2)] w (RetQ w (.bool b)) := by
  obtain ⟨ad', x, e, _, hx, hcx⟩ := h'.nat_at (k := i) hi
  subst e
  obtain ⟨ad, v, e, _, hv, hcv⟩ := h.int_at (k := i) hi
  subst e
  have hxD : xs.getD i 0 = x := by rw [List.getD_eq_getElem?_getD, hx]; rfl
  have hvD : l.getD i 0 = v := by rw [List.getD_eq_getElem?_getD, hv]; rfl
  rw [hxD, hvD] at hb
  have i1 : (i : Int) < (n : Int) := by omega
  clear hx hv hxD hvD h h'
  go_enter Try.func58, Try.ntmps58
  go_wp2
  go_quiet (fail)
  go_wp2
  go_ret
  exact ⟨ret_b hb.out, _, rfl⟩
end Go.Proofs.Ythbmnaonnebnhaa

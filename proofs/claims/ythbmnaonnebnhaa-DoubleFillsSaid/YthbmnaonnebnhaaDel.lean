import Derived.Test.YthbmnaonnebnhaaDelIdx
import Derived.Test.YthbmnaonnebnhaaCloneInts
import Derived.Test.YthbmnaonnebnhaaAppz
import Derived.Test.YthbmnaonnebnhaaQuiet
set_option linter.unusedVariables false
namespace Go.Proofs.Ythbmnaonnebnhaa
open Go.RowKit

theorem grown_setCellE (w : World) (p : Addr) (u : Value) : w.grownBy (w.setCell p u) (some p.block) := by
  have hb := (Below.refl 0 w).setCell (Nat.zero_le p.block) u
  exact ⟨hb.os, hb.tape, hb.output, hb.size, fun k hk hne => Below.heap_setCell w p u k (fun e => hne (by rw [e]))⟩
theorem own_setCells {base g N cap : Nat} {E : TypeId} : ∀ (vs : List Value) (o : Nat) (w : World) (xs : List Value), Own w base E (.slice (some ⟨g, 0, none⟩) N cap) xs →
    ∃ ys, Own (w.setCells g o vs) base E (.slice (some ⟨g, 0, none⟩) N cap) ys ∧ (∀ k, k < o → ys[k]? = xs[k]?) ∧ w.grownBy (w.setCells g o vs) (some g)
  | [], o, w, xs, h => ⟨xs, h, fun _ _ => rfl, World.grownBy.refl _ _⟩
  | v :: r, o, w, xs, h => by
    have h1 := h.set o v
    rw [add_row] at h1
    obtain ⟨ys, h2, h3, h4⟩ := own_setCells r (o + 1) (w.setCell ⟨g, o, none⟩ v) (xs.set o v) h1
    refine ⟨ys, h2, fun k hk => ?_, (grown_setCellE w ⟨g, o, none⟩ v).trans h4⟩
    rw [h3 k (by omega), List.getElem?_set, if_neg (by omega)]
theorem grown_drewE {w w' : World} {row : Option Nat} (n : Nat) (h : (w.drewN n).grownBy w' row) : w.grownBy w' row := ⟨h.os, h.tape, h.output, h.size, h.block⟩
/-- all stays -/
theorem dbl_delete_all (A : Option Addr) (m c n B : Nat) (l : List Nat) (w : World) (h : Reads w w.heap.size A m (vn .i64 l)) (hm : m ≤ 1000) (hbox : w.cell? ⟨B, 0, none⟩ = some (.int .i64 (n : Int))) (hall : ∀ x ∈ l, x < n) :
    Calls Try.prog 52 #[.slice A m c, .func (.func 53) #[] #[.pointer (some ⟨B, 0, none⟩)]] w (RetQ w (.slice A m c)) := by
  have c1 := idx_dbl (.pointer (some ⟨B, 0, none⟩)) A m c (vn .i64 l) (fun k => decide (n ≤ l.getD k 0)) (-1) w h (by unfold maxLen; omega) (fun k u q hu => by
    rw [List.getElem?_map] at hu
    obtain ⟨x, hx, rfl⟩ := Option.map_eq_some_iff.1 hu
    have : l.getD k 0 = x := by rw [List.getD_eq_getElem?_getD, hx]; rfl
    rw [this]
    exact (dbl_pred B n x (w.drewN q) hbox).mono fun e w' ⟨he, hw⟩ => ⟨he, 0, by rw [← hw]; rfl⟩) (idxOf_none fun j hj => by
      rw [decide_eq_false]
      have hl := h.nat_len
      have hx : l[j]? = some l[j] := List.getElem?_eq_getElem (by omega)
      rw [List.getD_eq_getElem?_getD, hx]
      have := hall _ (mem_at hx)
      simp; omega)
  clear h hall
  go_enter Try.func52, Try.ntmps52
  go_wp2_with (go_at_call 71; refine c1.mono ?_; clear c1; rintro e w' ⟨rfl, q, rfl⟩)
  go_ret
  exact ⟨rfl, q, rfl⟩
set_option maxHeartbeats 800000 in
/-- from r on nothing stays -/
theorem dbl_delete (g m cap base n B r : Nat) (l : List Nat) (w : World) (ho : Own w base 3 (.slice (some ⟨g, 0, none⟩) m cap) (vn .i64 l)) (hm : m ≤ 1000) (hbox : w.cell? ⟨B, 0, none⟩ = some (.int .i64 (n : Int))) (hBg : B ≠ g)
    (hr : r < m) (hpre : ∀ k x, l[k]? = some x → k < r → x < n) (hpost : ∀ k x, l[k]? = some x → r ≤ k → n ≤ x) :
    Calls Try.prog 52 #[.slice (some ⟨g, 0, none⟩) m cap, .func (.func 53) #[] #[.pointer (some ⟨B, 0, none⟩)]] w fun e w' =>
      ∃ c', e = .returned (.slice (some ⟨g, 0, none⟩) r c') ∧ Reads w' w'.heap.size (some ⟨g, 0, none⟩) r (vn .i64 (l.take r)) ∧ w.grownBy w' (some g) := by
  have hcap := ho.capLe'
  have hl := ho.reads.nat_len
  have hg : g < w.heap.size := by obtain ⟨g', e, _, h⟩ := ho.addr; injection e with e; subst e; exact h
  have c1 := idx_dbl (.pointer (some ⟨B, 0, none⟩)) (some ⟨g, 0, none⟩) m cap (vn .i64 l) (fun k => decide (n ≤ l.getD k 0)) (r : Int) w ho.reads (by unfold maxLen; omega) (fun k u q hu => by
    rw [List.getElem?_map] at hu
    obtain ⟨x, hx, rfl⟩ := Option.map_eq_some_iff.1 hu
    have : l.getD k 0 = x := by rw [List.getD_eq_getElem?_getD, hx]; rfl
    rw [this]
    exact (dbl_pred B n x (w.drewN q) hbox).mono fun e w' ⟨he, hw⟩ => ⟨he, 0, by rw [← hw]; rfl⟩) (idxOf_hit hr (by
      have hx : l[r]? = some l[r] := List.getElem?_eq_getElem (by omega)
      rw [List.getD_eq_getElem?_getD, hx]
      have := hpost r _ hx (Nat.le_refl _)
      simpa using this) (fun j hj => by
      have hx : l[j]? = some l[j] := List.getElem?_eq_getElem (by omega)
      rw [List.getD_eq_getElem?_getD, hx]
      have := hpre j _ hx hj
      simp; omega))
  have HP := Lib.hid hpost
  have HL := Lib.hid hl
  have hcells : ∀ (q j : Nat), j < m → ((w.drewN q).cell? ⟨g, j, none⟩).isSome = true := by
    intro q j hj
    have hx : l[j]? = some l[j] := List.getElem?_eq_getElem (by omega)
    have := ho.cell (j := j) (u := .int .i64 (l[j] : Int)) (by rw [List.getElem?_map, hx]; rfl)
    rw [add_row] at this
    show (w.cell? ⟨g, j, none⟩).isSome = true
    rw [this]; rfl
  have hclr := fun q : Nat => Lib.run_clear_slice (P := Try.prog) (w.drewN q) 26 3 0 (.int .i64 0) Try.underlying26 (fun w => by kernel_rfl) rfl rfl g r (m - r) (cap - r) (by omega) (fun j hj => hcells q (r + j) (by omega)) (fun j hj => by have := ho.frozenAt (r + j); rw [add_row] at this; exact this)
  have i9 : ((r : Int) == -1) = false := by simp
  clear hpre hpost hl hcells
  go_enter Try.func52, Try.ntmps52
  go_wp2_with (go_at_call 71; refine c1.mono ?_; clear c1; rintro e w' ⟨rfl, q, rfl⟩)
  go_loopw [5, 6] (fun iv jv wr => ∃ (j k : Nat), r < j ∧ j ≤ m ∧ iv = .int .i64 (r : Int) ∧ jv = .int .i64 j ∧ wr = w.drewN k) (fun _ jv _ => m - (intOf jv).toNat)
  case atStart => exact ⟨r + 1, q, by omega, by omega, rfl, by go_num, rfl⟩
  case round =>
    obtain ⟨j, k, hj, hjm, rfl, rfl, rfl⟩ := hrel
    by_cases hlt : j < m
    · obtain ⟨x, hx⟩ : ∃ x, l[j]? = some x := ⟨_, List.getElem?_eq_getElem (by rw [HL.out]; exact hlt)⟩
      have hnx := HP.out j x hx (by omega)
      have hc := ho.cell (j := j) (u := .int .i64 (x : Int)) (by rw [List.getElem?_map, hx]; rfl)
      rw [add_row] at hc
      have c2 := dbl_pred B n x (w.drewN k) hbox
      rw [decide_eq_true hnx] at c2
      clear hx
      go_wp2_with (go_at_call 53; refine c2.mono ?_; clear c2; rintro e w2 ⟨rfl, rfl⟩)
      go_roundw
      case rel => exact ⟨j + 1, k, by omega, by omega, rfl, by go_num, rfl⟩
      case measure => simp [intOf]; omega
    · obtain rfl : j = m := by omega
      have hclr := hclr k
      have i1 : ¬ cap = r := by omega
      have i2 : r ≤ cap := by omega
      have i3 : (0 : Int) ≤ (r : Int) := by omega
      have i4 : r ≤ j := by omega
      go_wp2
      go_ret
      obtain ⟨ys, h1, h2, h3⟩ := own_setCells (List.replicate (j - r) (Value.int .i64 0)) r (w.drewN k) _ (ho.drewN k)
      have hys := h1.len
      have e : (ys.take r) = vn .i64 (l.take r) := by
        apply List.ext_getElem?
        intro q
        by_cases hq : q < r
        · rw [List.getElem?_take_of_lt hq, h2 q hq]
          unfold vn
          rw [List.map_take, List.getElem?_take_of_lt hq]
        · rw [List.getElem?_eq_none (by simp; omega), List.getElem?_eq_none (by simp; omega)]
      refine ⟨cap, rfl, ?_, grown_drewE k h3⟩
      have := h1.reads.take (k := r) (by omega)
      rw [e] at this
      exact this
end Go.Proofs.Ythbmnaonnebnhaa

import Derived.Test.YtmepiiheidmbgaaKraftl
import Derived.Test.YtmepiiheidmbgaaSort
import Derived.Test.YtmepiiheidmbgaaOwnr
import Derived.Test.YtmepiiheidmbgaaKraft
import Derived.Test.YtmepiiheidmbgaaQuiet
import Derived.Test.YtmepiiheidmbgaaLists
import Derived.Deep.RegionLaw
import Derived.Deep.RegionWith
set_option linter.unusedVariables false
namespace Go.Proofs.Ytmepiiheidmbgaa
open Go.RowKit Go.Shelf Go.Sort

theorem el_intK : Elem Try.prog 50 3 (.int .i64 0) 8 := Elem.mk' Try.underlying50 (by kernel_rfl) rfl
theorem el_rowsK : Elem Try.prog 22 23 (.slice none 0 0) 24 := Elem.mk' Try.underlying22 (by kernel_rfl) rfl
def cmpI (x y : Int) : Int := if x < y then -1 else if y < x then 1 else 0
theorem cmp_nan (x : Int) (w : World) : Calls Try.prog 83 #[.int .i64 x] w (Ret w (.bool false)) := by
  go_enter Try.func83, Try.ntmps83
  go_wp2
  go_ret
  exact ⟨rfl, rfl⟩
theorem cmp_int (x y : Int) (w : World) : Calls Try.prog 69 #[.int .i64 x, .int .i64 y] w (Ret w (.int .i64 (cmpI x y))) := by
  unfold cmpI
  by_cases h1 : x < y
  · rw [if_pos h1]
    go_enter Try.func69, Try.ntmps69
    go_wp2_with (go_at_call 83; refine (cmp_nan _ w).mono ?_; rintro e w' ⟨rfl, rfl⟩)
    go_ret
    exact ⟨rfl, rfl⟩
  · rw [if_neg h1]
    by_cases h2 : y < x
    · rw [if_pos h2]
      go_enter Try.func69, Try.ntmps69
      go_wp2_with (go_at_call 83; refine (cmp_nan _ w).mono ?_; rintro e w' ⟨rfl, rfl⟩)
      go_ret
      exact ⟨rfl, rfl⟩
    · rw [if_neg h2]
      go_enter Try.func69, Try.ntmps69
      go_wp2_with (go_at_call 83; refine (cmp_nan _ w).mono ?_; rintro e w' ⟨rfl, rfl⟩)
      go_ret
      exact ⟨rfl, rfl⟩
/-- the order of two symbols -/
theorem kraft_less (x y n c B : Nat) (lx ly : Int) (ad : Addr) (w : World) (hbox : w.cell? ⟨B, 0, none⟩ = some (.slice (some ad) n c)) (hx : w.cell? (ad.add x) = some (.int .i64 lx)) (hy : w.cell? (ad.add y) = some (.int .i64 ly)) (hxn : x < n) (hyn : y < n) (hn : n ≤ 1000) :
    Calls Try.prog 68 #[.int .i64 (x : Int), .int .i64 (y : Int), .pointer (some ⟨B, 0, none⟩)] w (RetQ w (.int .i64 (cmpI lx ly))) := by
  have i1 : (0 : Int) ≤ (x : Int) := by omega
  have i2 : (x : Int) < (n : Int) := by omega
  have i3 : (0 : Int) ≤ (y : Int) := by omega
  have i4 : (y : Int) < (n : Int) := by omega
  have cc := fun W => cmp_int lx ly W
  generalize cmpI lx ly = r at *
  go_enter Try.func68, Try.ntmps68
  go_wp2
  go_quiet ((go_at_call 69; first | exact quietR (cc _) | exact quietR2 (cc _)))
  go_wp2
  go_ret
  exact ⟨rfl, nq, rfl⟩
theorem grown_setCellK (w : World) (p : Addr) (u : Value) : w.grownBy (w.setCell p u) (some p.block) := by
  have hb := (Below.refl 0 w).setCell (Nat.zero_le p.block) u
  exact ⟨hb.os, hb.tape, hb.output, hb.size, fun k hk hne => Below.heap_setCell w p u k (fun e => hne (by rw [e]))⟩
/-! ### rows that are stored -/
section
variable {w : World} {base n c : Nat} {E : TypeId} {ad : Addr} {xss : List (List Value)}
theorem OwnR.made (h : Own w base E (.slice (some ad) n c) (List.replicate n (.slice none 0 0))) : OwnR w base E (.slice (some ad) n c) (List.replicate n []) := by
  refine ⟨_, h, by simp, fun k xs hk => ?_⟩
  obtain ⟨hlt, rfl⟩ := List.getElem?_eq_some_iff.1 hk
  have hk2 : k < n := by simpa using hlt
  refine ⟨none, 0, 0, by simp [hk2], ?_, by unfold maxLen; omega, fun ad ha => by cases ha⟩
  simp only [List.getElem_replicate]
  exact Reads.none_
theorem OwnR.set (h : OwnR w base E (.slice (some ad) n c) xss) (j : Nat) {A : Option Addr} {m c' : Nat} {xs : List Value} (hr : Reads w w.heap.size A m xs) (hm : m ≤ maxLen) (hA : ∀ a, A = some a → a.block ≠ ad.block ∧ a.block < w.heap.size) :
    OwnR (w.setCell (ad.add j) (.slice A m c')) base E (.slice (some ad) n c) (xss.set j xs) := by
  obtain ⟨vs, ho, hl, hrow⟩ := h
  have hg := grown_setCellK w (ad.add j) (.slice A m c')
  rw [block_of_add] at hg
  have hsz : (w.setCell (ad.add j) (.slice A m c')).heap.size = w.heap.size := by simp
  refine ⟨vs.set j (.slice A m c'), ho.set j _, by simp [hl], fun k ys hk => ?_⟩
  rw [List.getElem?_set] at hk
  by_cases e : j = k
  · subst e
    rw [if_pos rfl] at hk
    split at hk
    · rename_i hlt
      injection hk with hk
      subst hk
      refine ⟨A, m, c', by rw [List.getElem?_set, if_pos rfl, if_pos (by rw [hl]; exact hlt)], ?_, hm, fun a ha => ⟨?_, by rw [hsz]; exact (hA a ha).2⟩⟩
      · rw [hsz]; exact hr.keepNe hg (Nat.le_refl _) (fun a ha e => (hA a ha).1 (by injection e with e; exact e.symm))
      · intro e; injection e with e; exact (hA a ha).1 e.symm
    · cases hk
  · rw [if_neg e] at hk
    obtain ⟨A1, n1, c1, h1, h2, h3, h4⟩ := hrow k ys hk
    refine ⟨A1, n1, c1, by rw [List.getElem?_set, if_neg e]; exact h1, ?_, h3, fun a ha => ⟨(h4 a ha).1, by rw [hsz]; exact (h4 a ha).2⟩⟩
    rw [hsz]
    exact h2.keepNe hg (Nat.le_refl _) (fun a ha => (h4 a ha).1)
end
end Go.Proofs.Ytmepiiheidmbgaa

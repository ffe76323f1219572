/-
  prefix.Read.
-/
import Derived.Test.YtfhpgiidcggobaaPread
import Derived.Test.YtfhpgiidcggobaaPreadIdx
import Derived.Test.YtfhpgiidcggobaaStep
import Derived.RangeFuncBox
import Derived.Deep.RegionLaw
set_option linter.unusedVariables false
namespace Go.Proofs.Ytfhpgiidcggobaa
open Go.RowKit

theorem prefix_Read1 (A : Option Addr) (n c : Nat) (w : World) :
    Calls Try.prog 60 #[.slice A n c] w (Ret w (.bool (n == 0))) := by
  by_cases h : n = 0
  · subst h
    go_enter Try.func60, Try.ntmps60
    go_wp2
    go_ret
    exact ⟨rfl, rfl⟩
  · have h1 : (n == 0) = false := by simpa using h
    have h2 : ((n : Int) == 0) = false := by simp; omega
    go_enter Try.func60, Try.ntmps60
    go_wp2
    go_ret
    exact ⟨ret_b h1.symm, rfl⟩
theorem prefix_Read2 (p1 : Addr) (A A1 : Option Addr) (n c m1 c1 : Nat) (l bq : List Bool) (w : World) {B B' : Nat} (hc : w.cell? p1 = some (.slice A1 m1 c1)) (h : Reads w B A n (vb l)) (h' : Reads w B' A1 m1 (vb bq)) (hn : n ≤ maxLen) (hm : m1 ≤ maxLen) (hc1 : m1 ≤ c1) :
    Calls Try.prog 62 #[.slice A n c, .pointer (some p1)] w (RetQ w (.bool (begB l bq))) := by
  have cb := prefix_Begins A A1 n m1 c c1 l bq w h h' hn hm hc1
  generalize begB l bq = b at *
  go_enter Try.func62, Try.ntmps62
  go_wp2_with (go_at_call 63; refine cb.mono ?_; rintro e w' ⟨rfl, m, rfl⟩)
  go_ret
  exact ⟨rfl, m, rfl⟩
def noneB (ls : List (List Bool)) (n : Nat) : Bool := anyTo (fun k => (ls.getD k []).length == 0) n
theorem read_none (A : Option Addr) (n c : Nat) (ls : List (List Bool)) (w : World) (h : Reads2c w w.heap.size A n ls) (hn : n ≤ maxLen) :
    Calls Try.prog 59 #[.slice A n c, .func (.func 60) #[] #[]] w (RetQ w (.bool (noneB ls n))) := by
  obtain ⟨vs, hv, hl, he⟩ := h
  refine contains_read1 A n c vs (fun k => (ls.getD k []).length == 0) (noneB ls n) w hv hn ?_ rfl
  intro k u m hu
  have hk : k < ls.length := by rw [← hl]; exact (List.getElem?_eq_some_iff.1 hu).1
  obtain ⟨A', n', c', e, h2, _⟩ := he k _ (List.getElem?_eq_getElem hk)
  rw [hu] at e
  injection e with e
  subst e
  have hD : (ls.getD k []).length = n' := by rw [List.getD_eq_getElem?_getD, List.getElem?_eq_getElem hk]; exact h2.bool_len
  simp only [hD]
  exact (prefix_Read1 A' n' c' (w.drewN m)).mono fun _ _ ⟨h1, h2⟩ => ⟨h1, 0, h2.symm⟩
theorem read_find (p1 : Addr) (A A1 : Option Addr) (n c m1 c1 : Nat) (ls : List (List Bool)) (bq : List Bool) (w : World) {B' : Nat} (hc : w.cell? p1 = some (.slice A1 m1 c1)) (h : Reads2c w w.heap.size A n ls) (h' : Reads w B' A1 m1 (vb bq)) (hn : n ≤ maxLen) (hm : m1 ≤ maxLen) (hc1 : m1 ≤ c1) :
    Calls Try.prog 61 #[.slice A n c, .func (.func 62) #[] #[.pointer (some p1)]] w (RetQ w (.int .i64 (findW ls n bq))) := by
  obtain ⟨vs, hv, hl, he⟩ := h
  refine idx_read2 p1 A n c vs (fun s => begB (ls.getD s []) bq) (findW ls n bq) w hv hn ?_ rfl
  intro k u m hu
  have hk : k < ls.length := by rw [← hl]; exact (List.getElem?_eq_some_iff.1 hu).1
  obtain ⟨A', n', c', e, h2, h3, h4⟩ := he k _ (List.getElem?_eq_getElem hk)
  rw [hu] at e
  injection e with e
  subst e
  have hD : ls.getD k [] = ls[k] := by rw [List.getD_eq_getElem?_getD, List.getElem?_eq_getElem hk]; rfl
  simp only [hD]
  exact prefix_Read2 p1 A' A1 n' c' m1 c1 ls[k] bq (w.drewN m) hc (h2.drewN m) (h'.drewN m) h3 hm hc1
end Go.Proofs.Ytfhpgiidcggobaa

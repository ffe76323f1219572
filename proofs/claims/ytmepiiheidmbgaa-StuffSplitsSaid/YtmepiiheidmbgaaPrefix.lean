import Derived.Test.YtmepiiheidmbgaaProg
import Derived.Test.YtmepiiheidmbgaaFrame
import Derived.Test.YtmepiiheidmbgaaPrefixIdx
set_option linter.unusedVariables false
namespace Go.Proofs.Ytmepiiheidmbgaa
open Go.RowKit

def longW (l : List Bool) : Bool := decide (8 < l.length)
def codeErr (ls : List (List Bool)) : Int := if 8 < ls.length ∨ ls.any longW = true then 1 else 0

theorem Reads2.row {w : World} {B : Nat} {A : Option Addr} {n : Nat} {ls : List (List Bool)} (h : Reads2 w B A n ls) {k : Nat} (hk : k < n) :
    ∃ ad l A' n' c', A = some ad ∧ ls[k]? = some l ∧ w.cell? (ad.add k) = some (.slice A' n' c') ∧ Reads w B A' n' (vb l) ∧ n' ≤ maxLen ∧ l.length = n' := by
  obtain ⟨vs, hv, hl, he⟩ := h
  obtain ⟨ad, u, rfl, hb, hx, hc⟩ := hv.at_ hk
  have hk' : k < ls.length := by rw [← hl, hv.len]; exact hk
  obtain ⟨A', n', c', e, h2, h3⟩ := he k _ (List.getElem?_eq_getElem hk')
  rw [hx] at e
  injection e with e
  subst e
  exact ⟨ad, ls[k], A', n', c', rfl, List.getElem?_eq_getElem hk', hc, h2, h3, h2.bool_len⟩
theorem Reads2.length {w : World} {B : Nat} {A : Option Addr} {n : Nat} {ls : List (List Bool)} (h : Reads2 w B A n ls) : ls.length = n := by
  obtain ⟨vs, hv, hl, he⟩ := h
  rw [← hl]; exact hv.len
theorem Reads2.drewN {w : World} {B : Nat} {A : Option Addr} {n : Nat} {ls : List (List Bool)} (h : Reads2 w B A n ls) (m : Nat) : Reads2 (w.drewN m) B A n ls := by
  obtain ⟨vs, hv, hl, he⟩ := h
  exact ⟨vs, hv.drewN m, hl, fun k l hk => by obtain ⟨A', n', c', e, h2, h3⟩ := he k l hk; exact ⟨A', n', c', e, h2.drewN m, h3⟩⟩
theorem Reads2.below {w w' : World} {B : Nat} {A : Option Addr} {n : Nat} {ls : List (List Bool)} (h : Reads2 w B A n ls) (hb : Below B w w') : Reads2 w' B A n ls := by
  obtain ⟨vs, hv, hl, he⟩ := h
  exact ⟨vs, hv.below hb, hl, fun k l hk => by obtain ⟨A', n', c', e, h2, h3⟩ := he k l hk; exact ⟨A', n', c', e, h2.below hb, h3⟩⟩

end Go.Proofs.Ytmepiiheidmbgaa

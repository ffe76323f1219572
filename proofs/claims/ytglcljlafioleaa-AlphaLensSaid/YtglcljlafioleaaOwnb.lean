/-
  A slice of slices that the call builds by append, all of whose rows the call made too. Over any program.
-/
import Derived.Test.YtglcljlafioleaaApart
set_option linter.unusedVariables false
namespace Go.Proofs.Ytglcljlafioleaa
open Go.RowKit

def BeyondB (base : Nat) (vs : List Value) : Prop := ∀ (k : Nat) (A : Addr) (n c : Nat), vs[k]? = some (.slice (some A) n c) → base ≤ A.block
def OwnB (w : World) (base : Nat) (E : TypeId) (v : Value) (xss : List (List Value)) : Prop := ∃ vs, Own w base E v vs ∧ RowOf w v vs xss ∧ BeyondB base vs
section
variable {w w' : World} {base : Nat} {E : TypeId} {v v' : Value} {xss : List (List Value)}
theorem OwnB.ownR (h : OwnB w base E v xss) : OwnR w base E v xss := by
  obtain ⟨vs, h1, h2, _⟩ := h
  exact ⟨vs, h1, h2⟩
theorem OwnB.nil (w : World) (base : Nat) (E : TypeId) : OwnB w base E (.slice none 0 0) [] := ⟨[], Own.nil _ _ _, ⟨rfl, fun k xs h => by simp at h⟩, fun k A n c h => by simp at h⟩
theorem OwnB.low (h : OwnB w base E v xss) {B : Nat} (hB : B ≤ base) : OwnB w B E v xss := by
  obtain ⟨vs, h1, h2, h3⟩ := h
  exact ⟨vs, h1.low hB, h2, fun k A n c hk => Nat.le_trans hB (h3 k A n c hk)⟩
theorem RowOf.same {vs : List Value} (hr : RowOf w v vs xss) (hb : Below w.heap.size w w') : RowOf w' v vs xss := by
  refine ⟨hr.1, fun k xs hk => ?_⟩
  obtain ⟨A, n, c, h1, h2, h3, h4⟩ := hr.2 k xs hk
  exact ⟨A, n, c, h1, (h2.below hb).more hb.size, h3, fun ad e => ⟨(h4 ad e).1, Nat.lt_of_lt_of_le (h4 ad e).2 hb.size⟩⟩
theorem OwnB.same (h : OwnB w base E v xss) (hb : Below w.heap.size w w') : OwnB w' base E v xss := by
  obtain ⟨vs, h1, h2, h3⟩ := h
  exact ⟨vs, h1.below hb (Nat.le_refl _), h2.same hb, h3⟩
theorem OwnB.apart (h : OwnB w base E v xss) {g : Option Nat} (hg : ∀ b, g = some b → b < base) (hw : base ≤ w.heap.size) : OwnG w base E v xss g := by
  obtain ⟨vs, h1, h2, h3⟩ := h
  refine ⟨vs, h1, h2, fun b e => ⟨fun e2 => ?_, Nat.lt_of_lt_of_le (hg b e) hw, fun k A n c hk e2 => ?_⟩⟩
  · have := (Own.lt h1 b e2).1
    have := hg b e
    omega
  · have := h3 k A n c hk
    have := hg b e
    omega
theorem OwnB.blockLt (h : OwnB w base E v xss) : ∀ b, v.ownBlock = some b → b < w.heap.size := by
  obtain ⟨vs, h1, _⟩ := h
  exact fun b e => (Own.lt h1 b e).2
theorem bpush {vs : List Value} {A : Option Addr} {n c : Nat} {xs : List Value} (hrow : RowOf w v vs xss) (hbe : BeyondB base vs) (hr : Reads w w.heap.size A n xs) (hn : n ≤ maxLen) (hA : ∀ ad, A = some ad → v.ownBlock ≠ some ad.block) (hA2 : ∀ ad, A = some ad → ad.block < w.heap.size) (hA3 : ∀ ad, A = some ad → base ≤ ad.block)
    (ho : Own w' base E v' (vs ++ [Value.slice A n c])) (hg : w.grownBy w' v.ownBlock) (hat : v'.ownBlock = v.ownBlock ∨ v'.ownBlock = some (w.heap.size + 1)) : OwnB w' base E v' (xss ++ [xs]) := by
  have h1 := rows_push hrow hr hn hA hA2 ho hg hat
  refine ⟨vs ++ [Value.slice A n c], ho, ?_, fun k A1 n1 c1 hk => ?_⟩
  · obtain ⟨vs', h2, h3⟩ := h1
    have h4 := away_push hrow (g := none) (fun b e => by cases e) hr hn hA hA2 (fun ad e => by simp) ho hg hat
    obtain ⟨vs2, h5, h6, _⟩ := h4
    refine ⟨by simp [hrow.1], fun k xs' hk => ?_⟩
    have hsz : w.heap.size ≤ w'.heap.size := hg.size
    rcases Nat.lt_or_ge k xss.length with h7 | h7
    · rw [List.getElem?_append_left h7] at hk
      obtain ⟨A', n', c', e1, e2, e3, e4⟩ := hrow.2 k xs' hk
      refine ⟨A', n', c', by rw [List.getElem?_append_left (by rw [hrow.1]; exact h7)]; exact e1, (e2.keepNe hg (Nat.le_refl _) (fun ad ha => (e4 ad ha).1)).more hsz, e3, fun ad ha => ⟨?_, Nat.lt_of_lt_of_le (e4 ad ha).2 hsz⟩⟩
      rcases hat with h8 | h8
      · rw [h8]; exact (e4 ad ha).1
      · rw [h8]; intro e; injection e with e; have := (e4 ad ha).2; omega
    · rw [List.getElem?_append_right h7] at hk
      have h0 : k - xss.length = 0 := by
        rcases Nat.eq_zero_or_pos (k - xss.length) with h0 | h0
        · exact h0
        · rw [List.getElem?_eq_none (by simp; omega)] at hk; simp at hk
      rw [h0] at hk
      simp at hk
      subst hk
      refine ⟨A, n, c, by rw [List.getElem?_append_right (by rw [hrow.1]; exact h7), hrow.1, h0]; rfl, (hr.keepNe hg (Nat.le_refl _) hA).more hsz, hn, fun ad ha => ⟨?_, Nat.lt_of_lt_of_le (hA2 ad ha) hsz⟩⟩
      rcases hat with h8 | h8
      · rw [h8]; exact hA ad ha
      · rw [h8]; intro e; injection e with e; have := hA2 ad ha; omega
  · rcases Nat.lt_or_ge k vs.length with h7 | h7
    · rw [List.getElem?_append_left h7] at hk
      exact hbe k A1 n1 c1 hk
    · rw [List.getElem?_append_right h7] at hk
      have h0 : k - vs.length = 0 := by
        rcases Nat.eq_zero_or_pos (k - vs.length) with h0 | h0
        · exact h0
        · rw [List.getElem?_eq_none (by simp; omega)] at hk; simp at hk
      rw [h0] at hk
      simp at hk
      obtain ⟨e1, _, _⟩ := hk
      exact hA3 A1 e1
end
/-- a row of an own slice of slices, read -/
theorem OwnG.row {w : World} {base : Nat} {E : TypeId} {A : Option Addr} {n c : Nat} {xss : List (List Value)} {g : Option Nat} (h : OwnG w base E (.slice A n c) xss g) {k : Nat} (hk : k < n) :
    ∃ ad xs A' n' c', A = some ad ∧ xss[k]? = some xs ∧ w.cell? (ad.add k) = some (.slice A' n' c') ∧ Reads w w.heap.size A' n' xs ∧ n' ≤ maxLen ∧ (∀ p, A' = some p → g ≠ some p.block) := by
  obtain ⟨vs, ho, hr, ha⟩ := h
  obtain ⟨ad, u, rfl, _, hx, hc⟩ := ho.reads.at_ hk
  have hk' : k < xss.length := by rw [← hr.1]; exact (List.getElem?_eq_some_iff.1 hx).1
  obtain ⟨A', n', c', e, h2, h3, _⟩ := hr.2 k _ (List.getElem?_eq_getElem hk')
  rw [hx] at e
  injection e with e
  subst e
  refine ⟨ad, _, A', n', c', rfl, List.getElem?_eq_getElem hk', hc, h2, h3, fun p e => ?_⟩
  subst e
  exact ha.at_ hx
end Go.Proofs.Ytglcljlafioleaa

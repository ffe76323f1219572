/-
  A slice of slices that the call itself builds by append; over any program.
-/
import Derived.Test.YtdidahafbcddeaaAppz
set_option linter.unusedVariables false
namespace Go.Proofs.Ytdidahafbcddeaa
open Go.RowKit

/-- what the elements of a slice of slices are -/
def RowOf (w : World) (v : Value) (vs : List Value) (xss : List (List Value)) : Prop :=
  vs.length = xss.length ∧ ∀ (k : Nat) (xs : List Value), xss[k]? = some xs → ∃ (A : Option Addr) (n c : Nat), vs[k]? = some (Value.slice A n c) ∧ Reads w w.heap.size A n xs ∧ n ≤ maxLen ∧ ∀ ad, A = some ad → v.ownBlock ≠ some ad.block ∧ ad.block < w.heap.size
def OwnR (w : World) (base : Nat) (E : TypeId) (v : Value) (xss : List (List Value)) : Prop := ∃ vs, Own w base E v vs ∧ RowOf w v vs xss
section
variable {w w' : World} {base : Nat} {E : TypeId} {v v' : Value} {xss : List (List Value)}
theorem OwnR.nil (w : World) (base : Nat) (E : TypeId) : OwnR w base E (.slice none 0 0) [] := ⟨[], Own.nil _ _ _, rfl, fun k xs h => by simp at h⟩
theorem OwnR.form (h : OwnR w base E v xss) : ∃ A c, v = .slice A xss.length c := by
  obtain ⟨vs, ho, hl, _⟩ := h
  obtain ⟨A, c, e⟩ := ho.form
  exact ⟨A, c, by rw [e, hl]⟩
theorem OwnR.below (h : OwnR w base E v xss) (hb : Below w.heap.size w w') : OwnR w' base E v xss := by
  obtain ⟨vs, ho, hl, hr⟩ := h
  refine ⟨vs, ho.below hb (Nat.le_refl _), hl, fun k xs hk => ?_⟩
  obtain ⟨A, n, c, h1, h2, h3, h4⟩ := hr k xs hk
  exact ⟨A, n, c, h1, (h2.below hb).more hb.size, h3, fun ad ha => ⟨(h4 ad ha).1, Nat.lt_of_lt_of_le (h4 ad ha).2 hb.size⟩⟩
theorem OwnR.low (h : OwnR w base E v xss) {B : Nat} (hB : B ≤ base) : OwnR w B E v xss := by
  obtain ⟨vs, ho, hr⟩ := h
  exact ⟨vs, ho.low hB, hr⟩
theorem OwnR.rows {A : Option Addr} {n c : Nat} (h : OwnR w base E (.slice A n c) xss) : Rows w w.heap.size A n xss := by
  obtain ⟨vs, ho, hl, hr⟩ := h
  refine ⟨vs, ho.reads, hl, fun k xs hk => ?_⟩
  obtain ⟨A', n', c', h1, h2, _⟩ := hr k xs hk
  exact ⟨A', n', c', h1, h2⟩
theorem Own.beyond {A : Option Addr} {n c : Nat} {xs : List Value} (h : Own w base E (.slice A n c) xs) : ∀ ad, A = some ad → base ≤ ad.block := by
  intro ad e
  subst e
  rcases h.2 with ⟨e2, _⟩ | ⟨g, cap, cur, e2, hbg, _⟩
  · simp at e2
  · injection e2 with e2; injection e2 with e2; subst e2; exact hbg
theorem Reads.keepNe {B n : Nat} {A : Option Addr} {xs : List Value} {row : Option Nat} (h : Reads w B A n xs) (hg : w.grownBy w' row) (hB : B ≤ w.heap.size) (hA : ∀ ad, A = some ad → row ≠ some ad.block) : Reads w' B A n xs :=
  ⟨h.len, fun hn => by
    obtain ⟨ad, e, hb, hc⟩ := h.cells hn
    refine ⟨ad, e, hb, fun j u hu => ?_⟩
    exact (World.cell?_of_block (hg.block (ad.add j).block (by rw [block_of_add]; omega) (by rw [block_of_add]; exact fun e2 => hA ad e e2.symm))).trans (hc j u hu)⟩
theorem rows_push {vs : List Value} {A : Option Addr} {n c : Nat} {xs : List Value} (hrow : RowOf w v vs xss) (hr : Reads w w.heap.size A n xs) (hn : n ≤ maxLen) (hA : ∀ ad, A = some ad → v.ownBlock ≠ some ad.block) (hA2 : ∀ ad, A = some ad → ad.block < w.heap.size)
    (ho : Own w' base E v' (vs ++ [Value.slice A n c])) (hg : w.grownBy w' v.ownBlock) (hat : v'.ownBlock = v.ownBlock ∨ v'.ownBlock = some (w.heap.size + 1)) : OwnR w' base E v' (xss ++ [xs]) := by
  obtain ⟨hl, hr0⟩ := hrow
  have hsz : w.heap.size ≤ w'.heap.size := hg.size
  refine ⟨vs ++ [Value.slice A n c], ho, by simp [hl], fun k xs' hk => ?_⟩
  rcases Nat.lt_or_ge k xss.length with h1 | h1
  · rw [List.getElem?_append_left h1] at hk
    obtain ⟨A', n', c', e1, e2, e3, e4⟩ := hr0 k xs' hk
    refine ⟨A', n', c', by rw [List.getElem?_append_left (by omega)]; exact e1, (e2.keepNe hg (Nat.le_refl _) (fun ad ha => (e4 ad ha).1)).more hsz, e3, fun ad ha => ⟨?_, Nat.lt_of_lt_of_le (e4 ad ha).2 hsz⟩⟩
    rcases hat with h2 | h2
    · rw [h2]; exact (e4 ad ha).1
    · rw [h2]; intro e; injection e with e; have := (e4 ad ha).2; omega
  · rw [List.getElem?_append_right h1] at hk
    have h0 : k - xss.length = 0 := by
      rcases Nat.eq_zero_or_pos (k - xss.length) with h0 | h0
      · exact h0
      · rw [List.getElem?_eq_none (by simp; omega)] at hk; simp at hk
    rw [h0] at hk
    simp at hk
    subst hk
    refine ⟨A, n, c, by rw [List.getElem?_append_right (by omega), hl, h0]; rfl, (hr.keepNe hg (Nat.le_refl _) hA).more hsz, hn, fun ad ha => ⟨?_, Nat.lt_of_lt_of_le (hA2 ad ha) hsz⟩⟩
    rcases hat with h2 | h2
    · rw [h2]; exact hA ad ha
    · rw [h2]; intro e; injection e with e; have := hA2 ad ha; omega
end
end Go.Proofs.Ytdidahafbcddeaa

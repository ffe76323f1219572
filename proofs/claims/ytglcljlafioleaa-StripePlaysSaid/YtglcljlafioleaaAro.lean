/-
  quipuref.Discs.
-/
import Derived.Test.YtglcljlafioleaaAru
import Derived.Test.YtglcljlafioleaaDiso
set_option linter.unusedVariables false
namespace Go.Proofs.Ytglcljlafioleaa
open Go.RowKit

/-- the blocks put, one after the other -/
def putTo (d : Nat) (bl : List Nat) : Nat → Nat → Nat → Nat
  | 0 => fun _ _ => 0
  | k + 1 => setD (putTo d bl k) (placeN d k).1 (placeN d k).2 (bl.getD k 0)
def sumTo (d : Nat) (bl : List Nat) : Nat → Nat → Nat
  | 0 => fun _ => 0
  | k + 1 => fun row => if row = (placeN d k).2 then sumTo d bl k row ^^^ bl.getD k 0 else sumTo d bl k row
def chkTo (d : Nat) (bl : List Nat) : Nat → Nat → Nat → Nat
  | 0 => putTo d bl 24
  | k + 1 => setD (chkTo d bl k) (checkN d k) k (sumTo d bl 24 k)
section
variable {d : Nat} (h3 : 3 ≤ d) (h6 : d ≤ 6) (bl : List Nat)
include h3 h6
omit h3 h6 in
theorem putTo_out : ∀ k, k ≤ 24 → ∀ a row, (∀ b, b < k → placeN d b ≠ (a, row)) → putTo d bl k a row = 0
  | 0, _, _, _, _ => rfl
  | k + 1, hk, a, row, h => by
    rw [putTo, setD_ne (fun e => h k (by omega) (by rw [e.1, e.2]))]
    exact putTo_out k (by omega) a row (fun b hb => h b (by omega))
theorem putTo_at : ∀ k, k ≤ 24 → ∀ b, b < k → putTo d bl k (placeN d b).1 (placeN d b).2 = bl.getD b 0
  | 0, _, b, hb => by omega
  | k + 1, hk, b, hb => by
    rw [putTo]
    by_cases e : b = k
    · subst e; rw [setD_at]
    · rw [setD_ne (fun e2 => e (placeN_inj h3 h6 (by omega) (by omega) (Prod.ext e2.1 e2.2)))]
      exact putTo_at k (by omega) b (by omega)
theorem putTo_sum : ∀ k, k ≤ 24 → ∀ row, xorAll (putTo d bl k) row d = sumTo d bl k row
  | 0, _, row => by
    have : ∀ n, xorAll (fun _ _ => 0) row n = 0 := by
      intro n
      induction n with
      | zero => rfl
      | succ n ih => rw [xorAll, ih]; rfl
    exact this d
  | k + 1, hk, row => by
    obtain ⟨_, p2, p3⟩ := placeN_is h3 h6 (b := k) (by omega)
    rw [putTo, xorAll_set, putTo_sum k (by omega) row]
    show _ = if row = (placeN d k).2 then sumTo d bl k row ^^^ bl.getD k 0 else sumTo d bl k row
    by_cases e : row = (placeN d k).2
    · rw [if_pos ⟨e, p2⟩, if_pos e, putTo_out bl k (by omega) _ row (fun b hb e2 => by
        rw [e] at e2
        have := placeN_inj h3 h6 (by omega) (by omega) e2
        omega), Nat.zero_xor]
    · rw [if_neg (by omega), if_neg e]
omit h3 h6 in
theorem chkTo_at : ∀ k a row, chkTo d bl k a row = if a = checkN d row ∧ row < k then sumTo d bl 24 row else putTo d bl 24 a row
  | 0, a, row => by rw [if_neg (by omega)]; rfl
  | k + 1, a, row => by
    rw [chkTo]
    by_cases e : a = checkN d k ∧ row = k
    · obtain ⟨rfl, rfl⟩ := e
      rw [setD_at, if_pos ⟨rfl, by omega⟩]
    · rw [setD_ne e, chkTo_at k a row]
      by_cases e2 : a = checkN d row ∧ row < k
      · rw [if_pos e2, if_pos ⟨e2.1, by omega⟩]
      · rw [if_neg e2, if_neg]
        rintro ⟨e3, e4⟩
        rcases Nat.lt_or_ge row k with h | h
        · exact e2 ⟨e3, h⟩
        · obtain rfl : row = k := by omega
          exact e ⟨e3, rfl⟩
theorem SimD.discs {f : Nat → Nat → Nat} {z : Int} {bl : List Nat} {T : Nat → Nat → Nat} (h : SimD d f z bl T) {a row : Nat} (ha : a < d) (hr : row < rowsD d) : T a row = chkTo d bl (rowsD d) a row := by
  have hother : ∀ a', a' < d → a' ≠ checkN d row → T a' row = putTo d bl 24 a' row := fun a' ha' hc => by
    by_cases hp : ∃ b, b < 24 ∧ placeN d b = (a', row)
    · obtain ⟨b, hb, e⟩ := hp
      have h1 := h.data b hb
      have h2 := putTo_at h3 h6 bl 24 (Nat.le_refl _) b hb
      rw [e] at h1 h2
      exact h1.trans h2.symm
    · have hp2 : ∀ b, b < 24 → placeN d b ≠ (a', row) := fun b hb e => hp ⟨b, hb, e⟩
      rw [h.rest a' row ha' hr hp2 hc, putTo_out bl 24 (Nat.le_refl _) a' row hp2]
  rw [chkTo_at]
  by_cases e : a = checkN d row
  · rw [if_pos ⟨e, hr⟩]
    have h1 := xorTo_all T a row d
    rw [h.par row hr, if_pos ha] at h1
    have h2 := xorTo_all (putTo d bl 24) a row d
    rw [putTo_sum h3 h6 bl 24 (Nat.le_refl _) row, if_pos ha, putTo_out bl 24 (Nat.le_refl _) a row (fun b hb e2 => by
      have := placeN_check h3 h6 hb
      rw [e2] at this
      exact this e), Nat.xor_zero] at h2
    rw [h2, ← xorTo_same (f := T) d (fun k hk hne => hother k hk (fun e3 => hne (by rw [e3, e])))]
    exact (xor_zero_eq h1.symm).symm
  · rw [if_neg (fun e2 => e e2.1)]
    exact hother a ha e
end
end Go.Proofs.Ytglcljlafioleaa

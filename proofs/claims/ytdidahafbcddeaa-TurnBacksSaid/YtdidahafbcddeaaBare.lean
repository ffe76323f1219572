import Derived.Test.YtdidahafbcddeaaStuff
import Derived.Test.YtdidahafbcddeaaStore
import Derived.Test.YtdidahafbcddeaaQuiet
import Derived.Test.YtdidahafbcddeaaGuard
set_option linter.unusedVariables false
namespace Go.Proofs.Ytdidahafbcddeaa
open Go.RowKit

theorem Reads.takeS {w : World} {B n k : Nat} {A : Option Addr} {l : List Bool} (h : Reads w B A n (vb l)) (hk : k ≤ n) : Reads w B A k (vb (l.take k)) := by
  have := h.take hk
  rwa [← List.map_take] at this
theorem vb_oneS (l : List Bool) : ∀ u ∈ vb l, u.oneCell' = true := by
  intro u hu; obtain ⟨x, _, rfl⟩ := List.mem_map.1 hu; rfl
/-- is a the beginning of b -/
def begB (a b : List Bool) : Bool := decide (a.length ≤ b.length) && decide (a = b.take a.length)
/-! ### bare: plain words -/
def bareR : Nat → List Bool → Option (List Bool)
  | r, [] => if r < 5 then some [] else none
  | r, b :: t => if r = 5 then (if b then none else bareR 0 t) else (bareR (if b then r + 1 else 0) t).map (b :: ·)
theorem bareR_end {r : Nat} : bareR r [] = if r < 5 then some [] else none := by rw [bareR]
theorem bareR_five {b : Bool} {t : List Bool} : bareR 5 (b :: t) = if b then none else bareR 0 t := by rw [bareR, if_pos rfl]
theorem bareR_next {r : Nat} {b : Bool} {t : List Bool} (h : r ≠ 5) : bareR r (b :: t) = (bareR (if b then r + 1 else 0) t).map (b :: ·) := by rw [bareR, if_neg h]
theorem map_cons (o : Option (List Bool)) (out : List Bool) (b : Bool) : (o.map (b :: ·)).map (out ++ ·) = o.map (out ++ [b] ++ ·) := by
  cases o with
  | none => rfl
  | some x => simp
/-- what it comes to -/
def BareP (w : World) (e : Ending) (w' : World) : Option (List Bool) → Prop
  | some xs => ∃ A n c, e = .returned (.tuple #[.slice A n c, .bool true]) ∧ Own w' w.heap.size 4 (.slice A n c) (vb xs) ∧ Below w.heap.size w w'
  | none => ∃ A n c, e = .returned (.tuple #[.slice A n c, .bool false]) ∧ Below w.heap.size w w'

def slen : Value → Nat
  | .slice _ n _ => n
  | _ => 0
theorem slen_slice (A : Option Addr) (n c : Nat) : slen (.slice A n c) = n := rfl
theorem stF_snoc (xs : List Bool) (b : Bool) : stF (xs ++ [b]) = stStep (stF xs) b := by unfold stF; rw [List.foldl_append]; rfl
theorem stF_r (xs : List Bool) : (stF xs).2 ≤ 4 := by
  have : ∀ l : List Bool, ∀ s : List Bool × Nat, s.2 ≤ 4 → (l.foldl stStep s).2 ≤ 4 := by
    intro l
    induction l with
    | nil => intro s h; exact h
    | cons b l ih =>
      intro s h
      refine ih _ ?_
      unfold stStep
      split
      · split
        · simp
        · simp only; omega
      · simp
  exact this xs _ (by simp)
theorem stF_ge (xs : List Bool) : xs.length ≤ (stF xs).1.length := by
  have : ∀ l : List Bool, ∀ s : List Bool × Nat, s.1.length + l.length ≤ (l.foldl stStep s).1.length := by
    intro l
    induction l with
    | nil => intro s; simp
    | cons b l ih =>
      intro s
      refine Nat.le_trans ?_ (ih _)
      have : s.1.length + 1 ≤ (stStep s b).1.length := by
        unfold stStep
        split
        · split <;> simp
        · simp
      simp only [List.length_cons]; omega
  have := this xs ([], 0)
  unfold stF
  simpa using this
/-- one round of the reference -/
theorem bare_round {l xs : List Bool} {b : Bool} {m : Nat} (hst : (stF xs).1 = l.take m) (hm : (stF xs).1.length = m) (hb : l[m]? = some b) (res : Option (List Bool))
    (hres : (bareR (stF xs).2 (l.drop m)).map (xs ++ ·) = res) :
    (begB (stF (xs ++ [b])).1 l = false → res = none) ∧
    (begB (stF (xs ++ [b])).1 l = true → (stF (xs ++ [b])).1 = l.take (stF (xs ++ [b])).1.length ∧ (stF (xs ++ [b])).1.length ≤ l.length ∧ (bareR (stF (xs ++ [b])).2 (l.drop (stF (xs ++ [b])).1.length)).map (xs ++ [b] ++ ·) = res) := by
  have hr := stF_r xs
  have hlt := (List.getElem?_eq_some_iff.1 hb).1
  rw [drop_next hb, bareR_next (by omega), map_cons] at hres
  have htk := take_next hb
  rw [stF_snoc]
  generalize hs : stF xs = s at *
  obtain ⟨st, r⟩ := s
  simp only at *
  by_cases h4 : b = true ∧ r + 1 = 5
  · obtain ⟨rfl, h5⟩ := h4
    have hS : stStep (st, r) true = (l.take (m + 1) ++ [false], 0) := by
      unfold stStep; rw [if_pos rfl]; simp only [h5, if_true]; rw [hst, htk]
    rw [hS]
    simp only [if_true, h5] at hres ⊢
    have hl1 : (l.take (m + 1) ++ [false]).length = m + 2 := by rw [List.length_append, List.length_take]; simp; omega
    rw [hl1]
    unfold begB
    rw [hl1]
    constructor
    · intro hbg
      rw [← hres]
      cases hd : l.drop (m + 1) with
      | nil => rw [bareR_end]; rfl
      | cons y t =>
        rw [bareR_five]
        cases y
        · exfalso
          have hy : l[m + 1]? = some false := by
            have := List.getElem?_drop (xs := l) (i := m + 1) (j := 0)
            rw [hd] at this; simpa using this.symm
          have hlt2 := (List.getElem?_eq_some_iff.1 hy).1
          rw [show m + 2 = (m + 1) + 1 from rfl, take_next hy] at hbg
          simp at hbg; omega
        · rfl
    · intro hbg
      simp only [Bool.and_eq_true, decide_eq_true_eq] at hbg
      obtain ⟨h1, h2⟩ := hbg
      have hlt2 : m + 1 < l.length := by omega
      have hy : l[m + 1]? = some (l[m + 1]'hlt2) := List.getElem?_eq_getElem hlt2
      generalize l[m + 1]'hlt2 = y at hy
      rw [show m + 2 = (m + 1) + 1 from rfl, take_next hy] at h2
      have hyf : y = false := by
        have := List.append_cancel_left h2
        injection this with this; exact this.symm
      subst hyf
      refine ⟨by rw [show m + 2 = (m + 1) + 1 from rfl, take_next hy], h1, ?_⟩
      rw [← hres, drop_next hy, bareR_five]; rfl
  · have hS : stStep (st, r) b = (l.take (m + 1), if b then r + 1 else 0) := by
      unfold stStep
      cases b
      · simp only [Bool.false_eq_true, if_false]; rw [hst, htk]
      · rw [if_pos rfl, if_neg (by intro h; exact h4 ⟨rfl, h⟩)]; simp only [if_true]; rw [hst, htk]
    rw [hS]
    have hl1 : (l.take (m + 1)).length = m + 1 := by rw [List.length_take]; omega
    simp only [hl1]
    have hbt : begB (l.take (m + 1)) l = true := by
      unfold begB; rw [hl1]; simp; omega
    rw [hbt]
    exact ⟨fun h => (by cases h), fun _ => ⟨trivial, by omega, hres⟩⟩
/-! ### the law -/
def BareQ (w : World) (e : Ending) (w' : World) : Option (List Bool) → Prop
  | some xs => ∃ A n c, e = .returned (.tuple #[.slice A n c, .int .i64 0]) ∧ Own w' w.heap.size 4 (.slice A n c) (vb xs) ∧ Below w.heap.size w w'
  | none => e = .returned (.tuple #[.slice none 0 0, .int .i64 3]) ∧ Below w.heap.size w w'
theorem bareR_len (l : List Bool) (r : Nat) (xs : List Bool) (h : bareR r l = some xs) : xs.length ≤ l.length := by
  induction l generalizing r xs with
  | nil =>
    rw [bareR_end] at h
    split at h
    · injection h with h; subst h; exact Nat.le_refl _
    · cases h
  | cons b l ih =>
    by_cases h5 : r = 5
    · subst h5
      rw [bareR_five] at h
      cases b
      · have := ih 0 xs (by simpa using h); simp only [List.length_cons]; omega
      · simp at h
    · rw [bareR_next h5] at h
      obtain ⟨ys, hy, rfl⟩ := Option.map_eq_some_iff.1 h
      have := ih _ ys hy
      simp only [List.length_cons]; omega

end Go.Proofs.Ytdidahafbcddeaa

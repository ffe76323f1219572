/-
  Texts between flags: plain Lean.
-/
import Derived.Test.YtmepiiheidmbgaaBare
import Derived.Test.YtmepiiheidmbgaaFrames
set_option linter.unusedVariables false
namespace Go.Proofs.Ytmepiiheidmbgaa

def atF (l : List Bool) : Bool := decide (l.take 8 = flagL)
def ffl : List Bool → Nat
  | [] => 0
  | b :: t => if atF (b :: t) then 0 else ffl t + 1
theorem atF_len {l : List Bool} (h : atF l = true) : 8 ≤ l.length := by
  have h2 := congrArg List.length (of_decide_eq_true h)
  simp [flagL] at h2
  omega
theorem atF_short {l : List Bool} (h : l.length < 8) : atF l = false := by
  cases hb : atF l
  · rfl
  · have := atF_len hb; omega
theorem ffl_le : ∀ l : List Bool, ffl l ≤ l.length
  | [] => Nat.le_refl _
  | b :: t => by
    have := ffl_le t
    rw [ffl, List.length_cons]
    split <;> omega
theorem ffl_at : ∀ l : List Bool, ffl l < l.length → atF (l.drop (ffl l)) = true
  | [], h => by simp [ffl] at h
  | b :: t, h => by
    rw [ffl] at h ⊢
    split
    · assumption
    · rename_i hb
      rw [if_neg hb, List.length_cons] at h
      exact ffl_at t (by omega)
theorem ffl_no : ∀ (l : List Bool) (m : Nat), m < ffl l → atF (l.drop m) = false
  | [], m, h => by simp [ffl] at h
  | b :: t, m, h => by
    rw [ffl] at h
    split at h
    · omega
    · rename_i hb
      cases m with
      | zero => simpa using hb
      | succ m => exact ffl_no t m (by omega)
theorem ffl_eq {l : List Bool} {m : Nat} (h : ∀ j, j < m → atF (l.drop j) = false) (hm : atF (l.drop m) = true) : ffl l = m := by
  have h8 := atF_len hm
  rw [List.length_drop] at h8
  rcases Nat.lt_trichotomy (ffl l) m with h1 | h1 | h1
  · have := ffl_at l (by omega)
    rw [h _ h1] at this; cases this
  · exact h1
  · rw [ffl_no l m h1] at hm; cases hm
theorem ffl_none {l : List Bool} (h : ∀ j, j < l.length → atF (l.drop j) = false) : ffl l = l.length := by
  rcases Nat.lt_or_ge (ffl l) l.length with h1 | h1
  · have := ffl_at l h1
    rw [h _ h1] at this; cases this
  · exact Nat.le_antisymm (ffl_le l) h1
def splR : Nat → List Bool → Option (List (List Bool))
  | 0, _ => none
  | f + 1, l => if l.length = 0 then some [] else if ffl l = l.length then none else
      match bareR 0 (l.take (ffl l)) with
      | none => none
      | some t => if 64 < t.length then none else (splR f (l.drop (ffl l + 8))).map (t :: ·)
theorem splR_nil {f : Nat} {l : List Bool} (h : l.length = 0) : splR (f + 1) l = some [] := by rw [splR, if_pos h]
theorem splR_end {f : Nat} {l : List Bool} (h0 : l.length ≠ 0) (h : ffl l = l.length) : splR (f + 1) l = none := by rw [splR, if_neg h0, if_pos h]
theorem splR_bad {f : Nat} {l : List Bool} (h0 : l.length ≠ 0) (hb : bareR 0 (l.take (ffl l)) = none) : splR (f + 1) l = none := by
  rw [splR, if_neg h0]
  split
  · rfl
  · rw [hb]
theorem splR_long {f : Nat} {l t : List Bool} (h0 : l.length ≠ 0) (hb : bareR 0 (l.take (ffl l)) = some t) (ht : 64 < t.length) : splR (f + 1) l = none := by
  rw [splR, if_neg h0]
  split
  · rfl
  · rw [hb]; simp [ht]
theorem splR_next {f : Nat} {l t : List Bool} (h0 : l.length ≠ 0) (h1 : ffl l ≠ l.length) (hb : bareR 0 (l.take (ffl l)) = some t) (ht : ¬ 64 < t.length) : splR (f + 1) l = (splR f (l.drop (ffl l + 8))).map (t :: ·) := by
  rw [splR, if_neg h0, if_neg h1, hb]; simp [ht]
theorem map_consL {α : Type} (o : Option (List α)) (out : List α) (b : α) : (o.map (b :: ·)).map (out ++ ·) = o.map (out ++ [b] ++ ·) := by
  cases o with
  | none => rfl
  | some x => simp
theorem bare_stuff : ∀ (n : Nat) (l : List Bool) (r : Nat) (xs out : List Bool), l.length ≤ n → r < 5 → bareR r l = some xs → (xs.foldl stStep (out, r)).1 = out ++ l
  | n, [], r, xs, out, _, hr, h => by
    rw [bareR_end, if_pos hr] at h
    cases h
    simp
  | 0, b :: t, r, xs, out, hn, _, _ => by simp at hn
  | n + 1, b :: t, r, xs, out, hn, hr, h => by
    rw [List.length_cons] at hn
    rw [bareR_next (by omega)] at h
    obtain ⟨ys, hy, rfl⟩ := Option.map_eq_some_iff.1 h
    rw [List.foldl_cons]
    cases b with
    | false =>
      have h2 := bare_stuff n t 0 ys (out ++ [false]) (by omega) (by omega) hy
      simp only [stStep] at h2 ⊢
      rw [show (if false = true then (if r + 1 = 5 then (out ++ [false] ++ [false], 0) else (out ++ [false], r + 1)) else (out ++ [false], 0)) = (out ++ [false], 0) from rfl, h2, List.append_assoc]; rfl
    | true =>
      by_cases h5 : r + 1 = 5
      · obtain rfl : r = 4 := by omega
        rw [if_pos rfl] at hy
        cases t with
        | nil => rw [bareR_end] at hy; simp at hy
        | cons c t' =>
          rw [bareR_five] at hy
          cases c with
          | true => simp at hy
          | false =>
            have hy2 : bareR 0 t' = some ys := by simpa using hy
            rw [List.length_cons] at hn
            have h2 := bare_stuff n t' 0 ys (out ++ [true] ++ [false]) (by omega) (by omega) hy2
            rw [show stStep (out, 4) true = (out ++ [true] ++ [false], 0) from rfl, h2]
            simp
      · rw [if_pos rfl] at hy
        have h2 := bare_stuff n t (r + 1) ys (out ++ [true]) (by omega) (by omega) hy
        rw [show stStep (out, r) true = (out ++ [true], r + 1) by simp [stStep, h5], h2, List.append_assoc]; rfl
theorem bare_stF {l xs : List Bool} (h : bareR 0 l = some xs) : (stF xs).1 = l := by
  have := bare_stuff l.length l 0 xs [] (Nat.le_refl _) (by omega) h
  simpa [stF] using this
theorem frF_push (ls : List (List Bool)) (t : List Bool) : frF (ls ++ [t]) = frF ls ++ (stF t).1 ++ flagL := by
  unfold frF; rw [List.foldl_append]; rfl
/-- what both programs tell -/
def splitX (l : List Bool) : Option (List (List Bool)) := splR 1001 (l.drop 8)
def splitR (l : List Bool) : Option (List (List Bool)) := if atF l then (splitX l).bind fun T => if 8 < T.length then none else some T else none
end Go.Proofs.Ytmepiiheidmbgaa

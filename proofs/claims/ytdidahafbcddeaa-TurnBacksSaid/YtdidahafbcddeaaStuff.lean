import Derived.Test.YtdidahafbcddeaaProg
import Derived.Test.YtdidahafbcddeaaOwn
import Derived.Test.YtdidahafbcddeaaBools
set_option linter.unusedVariables false
namespace Go.Proofs.Ytdidahafbcddeaa
open Go.RowKit

theorem el_bool : Elem Try.prog 22 4 (.bool false) 1 := Elem.mk' Try.underlying22 (by kernel_rfl) rfl

/-! ### plain words -/
def stStep (s : List Bool × Nat) (b : Bool) : List Bool × Nat :=
  if b then (if s.2 + 1 = 5 then (s.1 ++ [b] ++ [false], 0) else (s.1 ++ [b], s.2 + 1)) else (s.1 ++ [b], 0)
def stF (l : List Bool) : List Bool × Nat := l.foldl stStep ([], 0)
def rfStep (s : List Bool × Nat) (b : Bool) : List Bool × Nat :=
  if b then (if (s.2 + 1) % 5 = 0 then (s.1 ++ [b] ++ [false], s.2 + 1) else (s.1 ++ [b], s.2 + 1)) else (s.1 ++ [b], 0)
def rfF (l : List Bool) : List Bool × Nat := l.foldl rfStep ([], 0)
theorem st_rf (l : List Bool) : ∀ s s' : List Bool × Nat, s.1 = s'.1 → s.2 = s'.2 % 5 → (l.foldl stStep s).1 = (l.foldl rfStep s').1 := by
  induction l with
  | nil => intro s s' h _; exact h
  | cons b l ih =>
    intro s s' h1 h2
    simp only [List.foldl_cons]
    apply ih
    · unfold stStep rfStep
      rw [h1]
      cases b
      · rfl
      · by_cases h : s.2 + 1 = 5
        · rw [if_pos rfl, if_pos h, if_pos rfl, if_pos (by omega)]
        · rw [if_pos rfl, if_neg h, if_pos rfl, if_neg (by omega)]
    · unfold stStep rfStep
      cases b
      · rfl
      · by_cases h : s.2 + 1 = 5
        · rw [if_pos rfl, if_pos h, if_pos rfl, if_pos (by omega)]; simp only; omega
        · rw [if_pos rfl, if_neg h, if_pos rfl, if_neg (by omega)]; simp only; omega
theorem stF_rfF (l : List Bool) : (stF l).1 = (rfF l).1 := st_rf l _ _ rfl rfl
theorem stF_next {l : List Bool} {k : Nat} {x : Bool} (h : l[k]? = some x) : stF (l.take (k + 1)) = stStep (stF (l.take k)) x := by
  rw [take_next h]; unfold stF; rw [List.foldl_append]; rfl
theorem rfF_next {l : List Bool} {k : Nat} {x : Bool} (h : l[k]? = some x) : rfF (l.take (k + 1)) = rfStep (rfF (l.take k)) x := by
  rw [take_next h]; unfold rfF; rw [List.foldl_append]; rfl
/-- how many ones stand at the end -/
def tr (l : List Bool) : Nat := l.foldl (fun r b => if b then r + 1 else 0) 0
theorem tr_next {l : List Bool} {k : Nat} {x : Bool} (h : l[k]? = some x) : tr (l.take (k + 1)) = if x then tr (l.take k) + 1 else 0 := by
  rw [take_next h]; unfold tr; rw [List.foldl_append]; rfl
theorem rfF_tr (l : List Bool) (s : List Bool × Nat) : (l.foldl rfStep s).2 = l.foldl (fun r b => if b then r + 1 else 0) s.2 := by
  induction l generalizing s with
  | nil => rfl
  | cons b l ih =>
    simp only [List.foldl_cons]
    rw [ih]
    congr 1
    unfold rfStep
    cases b
    · rfl
    · simp only [if_true]; split <;> rfl

theorem rf_out (out : List Bool) (q : Nat) (x : Bool) : rfStep (out, q) x = (out ++ [x] ++ (if 0 < (if x then q + 1 else 0) ∧ (if x then q + 1 else 0) % 5 = 0 then [false] else []), if x then q + 1 else 0) := by
  unfold rfStep
  cases x
  · simp
  · by_cases h : (q + 1) % 5 = 0 <;> simp [h]

/-! ### the walks -/
theorem st_len (l : List Bool) : ∀ s : List Bool × Nat, (l.foldl stStep s).1.length ≤ s.1.length + 2 * l.length := by
  induction l with
  | nil => intro s; simp
  | cons b l ih =>
    intro s
    simp only [List.foldl_cons, List.length_cons]
    refine Nat.le_trans (ih _) ?_
    have : (stStep s b).1.length ≤ s.1.length + 2 := by
      unfold stStep; split
      · split <;> simp
      · simp
    omega
theorem stF_len (l : List Bool) : (vb (stF l).1).length ≤ 2 * l.length := by
  have := st_len l ([], 0)
  rw [List.length_map]; simpa [stF] using this
end Go.Proofs.Ytdidahafbcddeaa

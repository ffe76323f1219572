/-
  Codes in the order of their symbols: all trees, what they cost, the best one. Plain words.
-/
import Derived.Test.YtglcljlafioleaaBase
set_option linter.unusedVariables false
namespace Go.Proofs.Ytglcljlafioleaa

def treesF : Nat → Nat → List (List Nat)
  | _, 0 => [[]]
  | _, 1 => [[0]]
  | 0, _ + 2 => []
  | f + 1, n + 2 => (List.range (n + 1)).flatMap fun k => (treesF f (k + 1)).flatMap fun a => (treesF f (n + 1 - k)).map fun b => (a ++ b).map (· + 1)
theorem flatMap_same {α β : Type} {l : List α} {f g : α → List β} (h : ∀ x ∈ l, f x = g x) : l.flatMap f = l.flatMap g := by
  induction l with
  | nil => rfl
  | cons a l ih => rw [List.flatMap_cons, List.flatMap_cons, h a (by simp), ih fun x hx => h x (by simp [hx])]
theorem treesF_fuel : ∀ f n, n ≤ f + 1 → treesF f n = treesF (f + 1) n
  | f, 0, _ => by simp [treesF]
  | f, 1, _ => by simp [treesF]
  | 0, n + 2, h => by omega
  | f + 1, n + 2, h => by
    rw [treesF, treesF]
    refine flatMap_same fun k hk => ?_
    have hk := List.mem_range.1 hk
    rw [treesF_fuel f (k + 1) (by omega), treesF_fuel f (n + 1 - k) (by omega)]
/-- all trees of n symbols, n at most 8 -/
def treesL (n : Nat) : List (List Nat) := treesF 8 n
theorem treesL_zero : treesL 0 = [[]] := rfl
theorem treesL_one : treesL 1 = [[0]] := rfl
/-- those of the trees whose first part has k + 1 symbols -/
def treesK (n k : Nat) : List (List Nat) := (treesL (k + 1)).flatMap fun a => (treesL (n + 1 - k)).map fun b => (a ++ b).map (· + 1)
theorem treesL_next (n : Nat) (h : n + 2 ≤ 8) : treesL (n + 2) = (List.range (n + 1)).flatMap (treesK n) := by
  unfold treesL
  rw [treesF]
  refine flatMap_same fun k hk => ?_
  have hk := List.mem_range.1 hk
  unfold treesK treesL
  rw [treesF_fuel 7 (k + 1) (by omega), treesF_fuel 7 (n + 1 - k) (by omega)]
theorem mem_treesL {n : Nat} (h : n + 2 ≤ 8) (l : List Nat) : l ∈ treesL (n + 2) ↔ ∃ k a b, k < n + 1 ∧ a ∈ treesL (k + 1) ∧ b ∈ treesL (n + 1 - k) ∧ l = (a ++ b).map (· + 1) := by
  rw [treesL_next n h, List.mem_flatMap]
  constructor
  · rintro ⟨k, hk, hl⟩
    unfold treesK at hl
    obtain ⟨a, ha, hl⟩ := List.mem_flatMap.1 hl
    obtain ⟨b, hb, e⟩ := List.mem_map.1 hl
    exact ⟨k, a, b, List.mem_range.1 hk, ha, hb, e.symm⟩
  · rintro ⟨k, a, b, hk, ha, hb, e⟩
    refine ⟨k, List.mem_range.2 hk, ?_⟩
    unfold treesK
    exact List.mem_flatMap.2 ⟨a, ha, List.mem_map.2 ⟨b, hb, e.symm⟩⟩
theorem treesL_len : ∀ (n : Nat), n ≤ 8 → ∀ l ∈ treesL n, l.length = n := by
  intro n
  induction n using Nat.strongRecOn with
  | ind n ih =>
    intro hn l hl
    match n, hn, hl with
    | 0, _, hl => rw [treesL_zero, List.mem_singleton] at hl; rw [hl]; rfl
    | 1, _, hl => rw [treesL_one, List.mem_singleton] at hl; rw [hl]; rfl
    | n + 2, hn, hl =>
      obtain ⟨k, a, b, hk, ha, hb, rfl⟩ := (mem_treesL hn l).1 hl
      have h1 := ih (k + 1) (by omega) (by omega) a ha
      have h2 := ih (n + 1 - k) (by omega) (by omega) b hb
      rw [List.length_map, List.length_append, h1, h2]
      omega
theorem treesL_le : ∀ (n : Nat), n ≤ 8 → ∀ l ∈ treesL n, ∀ x ∈ l, x ≤ n := by
  intro n
  induction n using Nat.strongRecOn with
  | ind n ih =>
    intro hn l hl
    match n, hn, hl with
    | 0, _, hl => rw [treesL_zero, List.mem_singleton] at hl; rw [hl]; simp
    | 1, _, hl => rw [treesL_one, List.mem_singleton] at hl; rw [hl]; simp
    | n + 2, hn, hl =>
      obtain ⟨k, a, b, hk, ha, hb, rfl⟩ := (mem_treesL hn l).1 hl
      intro x hx
      obtain ⟨y, hy, rfl⟩ := List.mem_map.1 hx
      rcases List.mem_append.1 hy with hy | hy
      · have := ih (k + 1) (by omega) (by omega) a ha y hy; omega
      · have := ih (n + 1 - k) (by omega) (by omega) b hb y hy; omega
theorem treesL_many : ∀ n : Fin 9, (treesL n.val).length ≤ 429 ∧ 0 < (treesL n.val).length := by decide +kernel
def sumL : List Nat → Nat
  | [] => 0
  | x :: l => x + sumL l
theorem sumL_append (a b : List Nat) : sumL (a ++ b) = sumL a + sumL b := by
  induction a with
  | nil => simp [sumL]
  | cons x a ih => rw [List.cons_append, sumL, sumL, ih]; omega
def costL : List Nat → List Nat → Nat
  | w :: ws, x :: l => w * x + costL ws l
  | _, _ => 0
theorem costL_append : ∀ (u v a b : List Nat), u.length = a.length → costL (u ++ v) (a ++ b) = costL u a + costL v b
  | [], v, [], b, _ => by simp [costL]
  | w :: u, v, x :: a, b, h => by
    rw [List.cons_append, List.cons_append, costL, costL, costL_append u v a b (by simpa using h)]
    omega
theorem costL_up : ∀ (u a : List Nat), u.length = a.length → costL u (a.map (· + 1)) = costL u a + sumL u
  | [], [], _ => rfl
  | w :: u, x :: a, h => by
    rw [List.map_cons, costL, costL, sumL, costL_up u a (by simpa using h), Nat.mul_succ]
    omega
theorem costL_node (u v a b : List Nat) (h1 : u.length = a.length) (h2 : v.length = b.length) : costL (u ++ v) ((a ++ b).map (· + 1)) = costL u a + costL v b + sumL (u ++ v) := by
  rw [costL_up _ _ (by simp [h1, h2]), costL_append u v a b h1]
/-- has a list the lesser number where two first differ? -/
def lessL : List Nat → List Nat → Bool
  | [], [] => false
  | [], _ :: _ => true
  | _ :: _, [] => false
  | x :: a, y :: b => if x = y then lessL a b else decide (x < y)
theorem lessL_irr : ∀ a, lessL a a = false
  | [] => rfl
  | x :: a => by rw [lessL, if_pos rfl, lessL_irr a]
theorem lessL_tri : ∀ a b : List Nat, a.length = b.length → a = b ∨ lessL a b = true ∨ lessL b a = true
  | [], [], _ => .inl rfl
  | x :: a, y :: b, h => by
    rw [lessL, lessL]
    by_cases e : x = y
    · subst e
      rw [if_pos rfl, if_pos rfl]
      rcases lessL_tri a b (by simpa using h) with h1 | h1
      · exact .inl (by rw [h1])
      · exact .inr h1
    · rw [if_neg e, if_neg (fun e2 => e e2.symm)]
      simp
      omega
theorem lessL_trans : ∀ a b c : List Nat, lessL a b = true → lessL b c = true → lessL a c = true
  | [], [], _, h, _ => by simp [lessL] at h
  | [], _ :: _, [], _, h => by simp [lessL] at h
  | [], _ :: _, _ :: _, _, _ => rfl
  | _ :: _, [], _, h, _ => by simp [lessL] at h
  | _ :: _, _ :: _, [], _, h => by simp [lessL] at h
  | x :: a, y :: b, z :: c, h1, h2 => by
    rw [lessL] at h1 h2 ⊢
    by_cases e : x = y
    · subst e
      rw [if_pos rfl] at h1
      by_cases e2 : x = z
      · subst e2
        rw [if_pos rfl] at h2 ⊢
        exact lessL_trans a b c h1 h2
      · rw [if_neg e2] at h2 ⊢
        exact h2
    · rw [if_neg e] at h1
      simp at h1
      by_cases e2 : y = z
      · subst e2
        rw [if_neg (by omega)]
        simpa using h1
      · rw [if_neg e2] at h2
        simp at h2
        rw [if_neg (by omega)]
        simp
        omega
theorem lessL_asymm {a b : List Nat} (h : lessL a b = true) : lessL b a = false := by
  cases h2 : lessL b a with
  | false => rfl
  | true =>
    have := lessL_trans a b a h h2
    rw [lessL_irr] at this
    cases this
theorem lessL_map (d : Nat) : ∀ a b : List Nat, lessL (a.map (· + d)) (b.map (· + d)) = lessL a b
  | [], [] => rfl
  | [], _ :: _ => rfl
  | _ :: _, [] => rfl
  | x :: a, y :: b => by
    rw [List.map_cons, List.map_cons, lessL, lessL, lessL_map d a b]
    by_cases e : x = y
    · subst e; rw [if_pos rfl, if_pos rfl]
    · rw [if_neg e, if_neg (by omega)]
      exact decide_eq_decide.2 ⟨fun h => by omega, fun h => by omega⟩
theorem lessL_append : ∀ (a a' b b' : List Nat), a.length = a'.length → lessL (a ++ b) (a' ++ b') = (lessL a a' || (decide (a = a') && lessL b b'))
  | [], [], b, b', _ => by simp [lessL]
  | x :: a, y :: a', b, b', h => by
    rw [List.cons_append, List.cons_append, lessL, lessL, lessL_append a a' b b' (by simpa using h)]
    by_cases e : x = y
    · subst e
      simp
    · rw [if_neg e, if_neg e]
      simp [e]
/-- l is the first of the best lists -/
def IsBest (ws : List Nat) (c : Nat) (l : List Nat) : Prop :=
  l ∈ treesL ws.length ∧ costL ws l = c ∧ ∀ l' ∈ treesL ws.length, c ≤ costL ws l' ∧ (costL ws l' = c → l' = l ∨ lessL l l' = true)
theorem IsBest.uniq {ws : List Nat} {c c' : Nat} {l l' : List Nat} (h : IsBest ws c l) (h' : IsBest ws c' l') : c = c' ∧ l = l' := by
  have h1 := (h.2.2 l' h'.1).1
  have h2 := (h'.2.2 l h.1).1
  rw [h'.2.1] at h1
  rw [h.2.1] at h2
  have hc : c = c' := by omega
  subst hc
  refine ⟨rfl, ?_⟩
  rcases (h.2.2 l' h'.1).2 h'.2.1 with e | e
  · exact e.symm
  · rcases (h'.2.2 l h.1).2 h.2.1 with e2 | e2
    · exact e2
    · rw [lessL_asymm e] at e2
      cases e2
/-- the fold of quipuref.Alpha -/
def pickB (ws : List Nat) (s : Option (Nat × List Nat)) (l : List Nat) : Option (Nat × List Nat) :=
  match s with
  | none => some (costL ws l, l)
  | some (c, b) => if costL ws l < c ∨ costL ws l = c ∧ lessL l b = true then some (costL ws l, l) else some (c, b)
def foldB (ws : List Nat) (T : List (List Nat)) : Option (Nat × List Nat) := T.foldl (pickB ws) none
theorem foldB_snoc (ws : List Nat) (T : List (List Nat)) (l : List Nat) : foldB ws (T ++ [l]) = pickB ws (foldB ws T) l := by unfold foldB; rw [List.foldl_append]; rfl
theorem List.reverseRecOn' {α : Type} {motive : List α → Prop} (nil : motive []) (snoc : ∀ (l : List α) (a : α), motive l → motive (l ++ [a])) (l : List α) : motive l := by
  have h : ∀ (n : Nat) (l : List α), l.length = n → motive l := by
    intro n
    induction n with
    | zero => intro l hl; rw [List.eq_nil_of_length_eq_zero hl]; exact nil
    | succ n ih =>
      intro l hl
      have hne : l ≠ [] := by intro e; subst e; simp at hl
      rw [← List.dropLast_concat_getLast hne]
      exact snoc _ _ (ih _ (by simp [hl]))
  exact h _ l rfl
theorem foldB_best (ws : List Nat) (m : Nat) : ∀ (T : List (List Nat)), (∀ l ∈ T, l.length = m) → (foldB ws T = none ∧ T = []) ∨ ∃ c b, foldB ws T = some (c, b) ∧ b ∈ T ∧ costL ws b = c ∧ ∀ l ∈ T, c ≤ costL ws l ∧ (costL ws l = c → l = b ∨ lessL b l = true) := by
  intro T
  induction T using List.reverseRecOn' with
  | nil => intro _; exact .inl ⟨rfl, rfl⟩
  | snoc T l ih =>
    intro hT
    right
    rw [foldB_snoc]
    have hl := hT l (by simp)
    rcases ih (fun x hx => hT x (by simp [hx])) with ⟨h1, h2⟩ | ⟨c, b, h1, h2, h3, h4⟩
    · rw [h1, h2]
      refine ⟨costL ws l, l, rfl, by simp, rfl, fun x hx => ?_⟩
      simp at hx
      subst hx
      exact ⟨Nat.le_refl _, fun _ => .inl rfl⟩
    · rw [h1]
      have hb := hT b (by simp [h2])
      unfold pickB
      by_cases hc : costL ws l < c ∨ costL ws l = c ∧ lessL l b = true
      · simp only [if_pos hc]
        refine ⟨_, _, rfl, by simp, rfl, fun x hx => ?_⟩
        rcases List.mem_append.1 hx with hx | hx
        · have hx4 := h4 x hx
          refine ⟨by omega, fun e => ?_⟩
          rcases hc with hc | ⟨hc, hlb⟩
          · omega
          · rcases hx4.2 (by omega) with e2 | e2
            · right; rw [e2]; exact hlb
            · right; exact lessL_trans _ _ _ hlb e2
        · simp at hx
          subst hx
          exact ⟨Nat.le_refl _, fun _ => .inl rfl⟩
      · simp only [if_neg hc]
        refine ⟨c, b, rfl, by simp [h2], h3, fun x hx => ?_⟩
        rcases List.mem_append.1 hx with hx | hx
        · exact h4 x hx
        · simp at hx
          subst hx
          refine ⟨by omega, fun e => ?_⟩
          rcases lessL_tri b x (by rw [hb, hl]) with h5 | h5 | h5
          · exact .inl h5.symm
          · exact .inr h5
          · exact absurd (.inr ⟨e, h5⟩) hc
end Go.Proofs.Ytglcljlafioleaa

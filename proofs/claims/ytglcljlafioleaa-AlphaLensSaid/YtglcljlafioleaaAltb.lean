/-
  The best tree of a stretch, by where it is cut. Plain words.
-/
import Derived.Test.YtglcljlafioleaaAlt
set_option linter.unusedVariables false
namespace Go.Proofs.Ytglcljlafioleaa

def bestP (ws : List Nat) : Nat × List Nat := (foldB ws (treesL ws.length)).getD (0, [])
def bestC (ws : List Nat) : Nat := (bestP ws).1
def bestL (ws : List Nat) : List Nat := (bestP ws).2
theorem foldB_all {ws : List Nat} (h : ws.length ≤ 8) : foldB ws (treesL ws.length) = some (bestC ws, bestL ws) ∧ IsBest ws (bestC ws) (bestL ws) := by
  rcases foldB_best ws ws.length (treesL ws.length) (treesL_len _ h) with ⟨h1, h2⟩ | ⟨c, b, h1, h2, h3, h4⟩
  · have := (treesL_many ⟨ws.length, by omega⟩).2
    simp only at this
    rw [h2] at this
    simp at this
  · have e : bestP ws = (c, b) := by unfold bestP; rw [h1]; rfl
    unfold bestC bestL
    rw [e]
    exact ⟨h1, h2, h3, fun l hl => ⟨(h4 l hl).1, (h4 l hl).2⟩⟩
theorem best_is {ws : List Nat} (h : ws.length ≤ 8) : IsBest ws (bestC ws) (bestL ws) := (foldB_all h).2
theorem best_len {ws : List Nat} (h : ws.length ≤ 8) : (bestL ws).length = ws.length := treesL_len _ h _ (best_is h).1
theorem best_small {ws : List Nat} (h : ws.length ≤ 1) : bestC ws = 0 ∧ bestL ws = List.replicate ws.length 0 := by
  have hb := best_is (ws := ws) (by omega)
  match ws, h, hb with
  | [], _, hb =>
    have h1 := hb.1
    have h2 := hb.2.1
    rw [show ([] : List Nat).length = 0 from rfl, treesL_zero, List.mem_singleton] at h1
    rw [h1] at h2 ⊢
    exact ⟨h2.symm, rfl⟩
  | [w], _, hb =>
    have h1 := hb.1
    have h2 := hb.2.1
    rw [show [w].length = 1 from rfl, treesL_one, List.mem_singleton] at h1
    rw [h1] at h2 ⊢
    exact ⟨by rw [← h2]; simp [costL], rfl⟩
/-- what a cut behind k symbols costs, but for the sum of all -/
def cutC (ws : List Nat) (k : Nat) : Nat := bestC (ws.take k) + bestC (ws.drop k)
def candL (ws : List Nat) (k : Nat) : List Nat := (bestL (ws.take k) ++ bestL (ws.drop k)).map (· + 1)
section
variable {ws : List Nat} {n : Nat}
theorem cut_tree (hn : ws.length = n + 2) (h8 : n + 2 ≤ 8) {k : Nat} (hk : k < n + 1) {a b : List Nat} (ha : a ∈ treesL (k + 1)) (hb : b ∈ treesL (n + 1 - k)) :
    (a ++ b).map (· + 1) ∈ treesL ws.length ∧ costL ws ((a ++ b).map (· + 1)) = costL (ws.take (k + 1)) a + costL (ws.drop (k + 1)) b + sumL ws := by
  refine ⟨by rw [hn]; exact (mem_treesL h8 _).2 ⟨k, a, b, hk, ha, hb, rfl⟩, ?_⟩
  have h1 := treesL_len (k + 1) (by omega) a ha
  have h2 := treesL_len (n + 1 - k) (by omega) b hb
  have := costL_node (ws.take (k + 1)) (ws.drop (k + 1)) a b (by rw [List.length_take, h1]; omega) (by rw [List.length_drop, h2]; omega)
  rwa [List.take_append_drop] at this
theorem take_len (hn : ws.length = n + 2) {k : Nat} (hk : k < n + 1) : (ws.take (k + 1)).length = k + 1 := by rw [List.length_take]; omega
theorem drop_len (hn : ws.length = n + 2) {k : Nat} (hk : k < n + 1) : (ws.drop (k + 1)).length = n + 1 - k := by rw [List.length_drop]; omega
theorem cut_le (hn : ws.length = n + 2) (h8 : n + 2 ≤ 8) {k : Nat} (hk : k < n + 1) : bestC ws ≤ cutC ws (k + 1) + sumL ws := by
  have l1 := take_len hn hk
  have l2 := drop_len hn hk
  have b1 := best_is (ws := ws.take (k + 1)) (by omega)
  have b2 := best_is (ws := ws.drop (k + 1)) (by omega)
  have m1 := b1.1
  have m2 := b2.1
  rw [l1] at m1
  rw [l2] at m2
  obtain ⟨t1, t2⟩ := cut_tree hn h8 hk m1 m2
  have := ((best_is (ws := ws) (by omega)).2.2 _ t1).1
  rw [t2, b1.2.1, b2.2.1] at this
  exact this
theorem cand_cost (hn : ws.length = n + 2) (h8 : n + 2 ≤ 8) {k : Nat} (hk : k < n + 1) : candL ws (k + 1) ∈ treesL ws.length ∧ costL ws (candL ws (k + 1)) = cutC ws (k + 1) + sumL ws := by
  have l1 := take_len hn hk
  have l2 := drop_len hn hk
  have b1 := best_is (ws := ws.take (k + 1)) (by omega)
  have b2 := best_is (ws := ws.drop (k + 1)) (by omega)
  have m1 := b1.1
  have m2 := b2.1
  rw [l1] at m1
  rw [l2] at m2
  obtain ⟨t1, t2⟩ := cut_tree hn h8 hk m1 m2
  rw [b1.2.1, b2.2.1] at t2
  exact ⟨t1, t2⟩
theorem best_cut (hn : ws.length = n + 2) (h8 : n + 2 ≤ 8) : ∃ k, k < n + 1 ∧ bestC ws = cutC ws (k + 1) + sumL ws ∧ bestL ws = candL ws (k + 1) := by
  have hb := best_is (ws := ws) (by omega)
  have hm := hb.1
  rw [hn] at hm
  obtain ⟨k, a, b, hk, ha, hb2, e⟩ := (mem_treesL h8 _).1 hm
  have l1 := take_len hn hk
  have l2 := drop_len hn hk
  have b1 := best_is (ws := ws.take (k + 1)) (by omega)
  have b2 := best_is (ws := ws.drop (k + 1)) (by omega)
  have a1 := b1.2.2 a (by rw [l1]; exact ha)
  have a2 := b2.2.2 b (by rw [l2]; exact hb2)
  obtain ⟨t1, t2⟩ := cut_tree hn h8 hk ha hb2
  rw [← e, hb.2.1] at t2
  have hle := cut_le hn h8 hk
  unfold cutC at hle
  have e1 : costL (ws.take (k + 1)) a = bestC (ws.take (k + 1)) := by omega
  have e2 : costL (ws.drop (k + 1)) b = bestC (ws.drop (k + 1)) := by omega
  refine ⟨k, hk, by unfold cutC; omega, ?_⟩
  obtain ⟨c1, c2⟩ := cand_cost hn h8 hk
  have hcc : costL ws (candL ws (k + 1)) = bestC ws := by rw [c2]; unfold cutC; omega
  rcases (hb.2.2 _ c1).2 hcc with h | h
  · exact h.symm
  · exfalso
    rw [e] at h
    unfold candL at h
    rw [lessL_map 1, lessL_append _ _ _ _ (by rw [best_len (by omega), l1]; exact treesL_len _ (by omega) a ha)] at h
    rcases a1.2 e1 with h3 | h3
    · rw [h3, lessL_irr] at h
      simp at h
      rcases a2.2 e2 with h4 | h4
      · rw [h4, lessL_irr] at h; cases h
      · rw [lessL_asymm h4] at h; cases h
    · rw [lessL_asymm h3] at h
      simp at h
      rw [h.1] at h3
      rw [lessL_irr] at h3
      cases h3
theorem best_first (hn : ws.length = n + 2) (h8 : n + 2 ≤ 8) {k : Nat} (hk : k < n + 1) (hc : cutC ws (k + 1) + sumL ws = bestC ws) : candL ws (k + 1) = bestL ws ∨ lessL (bestL ws) (candL ws (k + 1)) = true := by
  obtain ⟨c1, c2⟩ := cand_cost hn h8 hk
  exact ((best_is (ws := ws) (by omega)).2.2 _ c1).2 (by rw [c2, hc])
end
/-- the least of f 1 .. f k -/
def leastK (f : Nat → Nat) : Nat → Option Nat
  | 0 => none
  | k + 1 => match leastK f k with
    | none => some (f (k + 1))
    | some m => if f (k + 1) < m then some (f (k + 1)) else some m
theorem leastK_is (f : Nat → Nat) : ∀ k, ∃ m, leastK f (k + 1) = some m ∧ (∃ j, j < k + 1 ∧ f (j + 1) = m) ∧ ∀ j, j < k + 1 → m ≤ f (j + 1)
  | 0 => ⟨f 1, rfl, ⟨0, by omega, rfl⟩, fun j hj => by
      have e : j = 0 := by omega
      rw [e]
      exact Nat.le_refl _⟩
  | k + 1 => by
    obtain ⟨m, h1, ⟨j0, h2, h3⟩, h4⟩ := leastK_is f k
    rw [leastK, h1]
    by_cases h : f (k + 1 + 1) < m
    · refine ⟨_, if_pos h, ⟨k + 1, by omega, rfl⟩, fun j hj => ?_⟩
      by_cases e : j = k + 1
      · subst e; exact Nat.le_refl _
      · have := h4 j (by omega); omega
    · refine ⟨_, if_neg h, ⟨j0, by omega, h3⟩, fun j hj => ?_⟩
      by_cases e : j = k + 1
      · subst e; omega
      · exact h4 j (by omega)
theorem least_best {ws : List Nat} {n : Nat} (hn : ws.length = n + 2) (h8 : n + 2 ≤ 8) : ∃ m, leastK (cutC ws) (n + 1) = some m ∧ bestC ws = m + sumL ws := by
  obtain ⟨m, h1, ⟨j, h2, h3⟩, h4⟩ := leastK_is (cutC ws) n
  refine ⟨m, h1, ?_⟩
  obtain ⟨k, hk, e, _⟩ := best_cut hn h8
  have := h4 k hk
  have := cut_le hn h8 h2
  omega
/-- the first list of those that are cut behind 1 .. k symbols and cost the least -/
def firstK (ws : List Nat) : Nat → Option (List Nat)
  | 0 => none
  | k + 1 => if cutC ws (k + 1) + sumL ws = bestC ws then
      match firstK ws k with
      | none => some (candL ws (k + 1))
      | some l => if lessL (candL ws (k + 1)) l = true then some (candL ws (k + 1)) else some l
    else firstK ws k
theorem firstK_is (ws : List Nat) : ∀ k, (firstK ws k = none ∧ ∀ j, j < k → cutC ws (j + 1) + sumL ws ≠ bestC ws) ∨
    ∃ l, firstK ws k = some l ∧ (∃ j, j < k ∧ cutC ws (j + 1) + sumL ws = bestC ws ∧ l = candL ws (j + 1)) ∧ ∀ j, j < k → cutC ws (j + 1) + sumL ws = bestC ws → lessL (candL ws (j + 1)) l = false
  | 0 => .inl ⟨rfl, fun j hj => by omega⟩
  | k + 1 => by
    rw [firstK]
    by_cases hc : cutC ws (k + 1) + sumL ws = bestC ws
    · rw [if_pos hc]
      right
      rcases firstK_is ws k with ⟨h1, h2⟩ | ⟨l, h1, ⟨j0, h2, h3, h4⟩, h5⟩
      · rw [h1]
        refine ⟨_, rfl, ⟨k, by omega, hc, rfl⟩, fun j hj e => ?_⟩
        by_cases ej : j = k
        · subst ej; exact lessL_irr _
        · exact absurd e (h2 j (by omega))
      · rw [h1]
        by_cases hl : lessL (candL ws (k + 1)) l = true
        · refine ⟨_, if_pos hl, ⟨k, by omega, hc, rfl⟩, fun j hj e => ?_⟩
          by_cases ej : j = k
          · subst ej; exact lessL_irr _
          · have := h5 j (by omega) e
            cases h6 : lessL (candL ws (j + 1)) (candL ws (k + 1)) with
            | false => rfl
            | true =>
              rw [lessL_trans _ _ _ h6 hl] at this
              cases this
        · refine ⟨_, if_neg hl, ⟨j0, by omega, h3, h4⟩, fun j hj e => ?_⟩
          by_cases ej : j = k
          · subst ej; simpa using hl
          · exact h5 j (by omega) e
    · rw [if_neg hc]
      rcases firstK_is ws k with ⟨h1, h2⟩ | ⟨l, h1, ⟨j0, h2, h3, h4⟩, h5⟩
      · refine .inl ⟨h1, fun j hj => ?_⟩
        by_cases ej : j = k
        · subst ej; exact hc
        · exact h2 j (by omega)
      · refine .inr ⟨l, h1, ⟨j0, by omega, h3, h4⟩, fun j hj e => ?_⟩
        by_cases ej : j = k
        · subst ej; exact absurd e hc
        · exact h5 j (by omega) e
theorem first_best {ws : List Nat} {n : Nat} (hn : ws.length = n + 2) (h8 : n + 2 ≤ 8) : firstK ws (n + 1) = some (bestL ws) := by
  obtain ⟨k, hk, e1, e2⟩ := best_cut hn h8
  rcases firstK_is ws (n + 1) with ⟨h1, h2⟩ | ⟨l, h1, ⟨j0, h2, h3, h4⟩, h5⟩
  · exact absurd e1.symm (h2 k hk)
  · rw [h1]
    congr 1
    have h6 := h5 k hk e1.symm
    rw [← e2] at h6
    rcases best_first hn h8 h2 h3 with h7 | h7
    · rw [h4, h7]
    · rw [h4] at h6
      rw [h6] at h7
      cases h7
theorem candL_len {ws : List Nat} {n k : Nat} (hn : ws.length = n + 2) (h8 : n + 2 ≤ 8) (hk : k < n + 1) : (candL ws (k + 1)).length = n + 2 := by rw [treesL_len _ (by omega) _ (cand_cost hn h8 hk).1, hn]
/-- a stretch -/
def segL (ws : List Nat) (i j : Nat) : List Nat := (ws.drop i).take (j - i)
theorem segL_len {ws : List Nat} {i j : Nat} (hj : j ≤ ws.length) (hi : i ≤ j) : (segL ws i j).length = j - i := by unfold segL; rw [List.length_take, List.length_drop]; omega
theorem segL_take {ws : List Nat} {i j k : Nat} (hi : i ≤ k) (hk : k ≤ j) : (segL ws i j).take (k - i) = segL ws i k := by
  unfold segL
  rw [List.take_take]
  congr 1
  omega
theorem segL_drop {ws : List Nat} {i j k : Nat} (hi : i ≤ k) (hk : k ≤ j) : (segL ws i j).drop (k - i) = segL ws k j := by
  unfold segL
  rw [List.drop_take, List.drop_drop]
  congr 1
  · omega
  · congr 1; omega
theorem sumL_le {ws : List Nat} (B : Nat) (h : ∀ x ∈ ws, x ≤ B) : sumL ws ≤ ws.length * B := by
  induction ws with
  | nil => simp [sumL]
  | cons x l ih =>
    rw [sumL, List.length_cons, Nat.succ_mul]
    have := h x (by simp)
    have := ih fun y hy => h y (by simp [hy])
    omega
theorem segL_mem {ws : List Nat} {i j x : Nat} (h : x ∈ segL ws i j) : x ∈ ws := List.mem_of_mem_drop (List.mem_of_mem_take h)
theorem costL_le (B m : Nat) : ∀ (ws l : List Nat), (∀ x ∈ ws, x ≤ B) → (∀ x ∈ l, x ≤ m) → costL ws l ≤ ws.length * (B * m)
  | [], l, _, _ => by simp [costL]
  | w :: ws, [], _, _ => by simp [costL]
  | w :: ws, x :: l, h1, h2 => by
    rw [costL, List.length_cons, Nat.succ_mul]
    have a1 := h1 w (by simp)
    have a2 := h2 x (by simp)
    have a3 := costL_le B m ws l (fun y hy => h1 y (by simp [hy])) fun y hy => h2 y (by simp [hy])
    have a4 : w * x ≤ B * m := Nat.mul_le_mul a1 a2
    omega
theorem bestC_le {ws : List Nat} (h : ws.length ≤ 8) (hB : ∀ x ∈ ws, x ≤ 1048576) : bestC ws ≤ 67108864 := by
  have hb := best_is h
  rw [← hb.2.1]
  have h1 := costL_le 1048576 8 ws (bestL ws) hB (fun x hx => Nat.le_trans (treesL_le _ h _ hb.1 x hx) h)
  have h2 : ws.length * (1048576 * 8) ≤ 8 * (1048576 * 8) := Nat.mul_le_mul_right _ h
  omega
end Go.Proofs.Ytglcljlafioleaa

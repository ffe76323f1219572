/-
  Huffman: sets of symbols as numbers; how a set falls apart. Plain words.
-/
import Derived.Test.YtdidahafbcddeaaHufl
set_option linter.unusedVariables false
namespace Go.Proofs.Ytdidahafbcddeaa

theorem sub_bits : ∀ (i s a : Nat), a &&& s = a → (s - a).testBit i = (s.testBit i && !a.testBit i)
  | 0, s, a, h => by
    have hle : a ≤ s := by rw [← h]; exact Nat.and_le_right
    have bit : ∀ j, (a.testBit j && s.testBit j) = a.testBit j := fun j => by rw [← Nat.testBit_and, h]
    have h0 : a % 2 = 1 → s % 2 = 1 := by
      intro h1
      have := bit 0
      simpa [Nat.testBit_zero, h1] using this
    simp only [Nat.testBit_zero]
    rcases Nat.mod_two_eq_zero_or_one s with e1 | e1 <;> rcases Nat.mod_two_eq_zero_or_one a with e2 | e2
    · have : (s - a) % 2 = 0 := by omega
      simp [e1, e2, this]
    · have := h0 e2; omega
    · have : (s - a) % 2 = 1 := by omega
      simp [e1, e2, this]
    · have : (s - a) % 2 = 0 := by omega
      simp [e1, e2, this]
  | i + 1, s, a, h => by
    have hle : a ≤ s := by rw [← h]; exact Nat.and_le_right
    have bit : ∀ j, (a.testBit j && s.testBit j) = a.testBit j := fun j => by rw [← Nat.testBit_and, h]
    have h0 : a % 2 = 1 → s % 2 = 1 := by
      intro h1
      have := bit 0
      simpa [Nat.testBit_zero, h1] using this
    have h1 : (s - a) / 2 = s / 2 - a / 2 := by
      rcases Nat.mod_two_eq_zero_or_one a with e2 | e2
      · omega
      · have := h0 e2; omega
    have h2 : a / 2 &&& s / 2 = a / 2 := by
      apply Nat.eq_of_testBit_eq
      intro j
      rw [Nat.testBit_and, ← Nat.testBit_succ, ← Nat.testBit_succ]
      exact bit (j + 1)
    rw [Nat.testBit_succ, h1, sub_bits i _ _ h2, Nat.testBit_succ, Nat.testBit_succ]
/-- the number of a set -/
def mkS (p : Nat → Bool) : Nat → Nat
  | 0 => 0
  | n + 1 => 2 * mkS (fun i => p (i + 1)) n + (if p 0 = true then 1 else 0)
theorem mkS_bit : ∀ (n i : Nat) (p : Nat → Bool), (mkS p n).testBit i = (decide (i < n) && p i)
  | 0, i, p => by simp [mkS]
  | n + 1, 0, p => by
    rw [Nat.testBit_zero, mkS]
    cases h : p 0
    · simp
    · simp
  | n + 1, i + 1, p => by
    rw [Nat.testBit_succ, mkS, show (2 * mkS (fun i => p (i + 1)) n + (if p 0 = true then 1 else 0)) / 2 = mkS (fun i => p (i + 1)) n by split <;> omega, mkS_bit n i]
    simp
theorem mkS_lt : ∀ (n : Nat) (p : Nat → Bool), mkS p n < 2 ^ n
  | 0, p => by simp [mkS]
  | n + 1, p => by
    have := mkS_lt n (fun i => p (i + 1))
    rw [mkS, Nat.pow_succ]
    split <;> omega
/-- the symbols of a set -/
def idxS (s : Nat) : List Nat := (List.range 8).filter fun i => s.testBit i
def wlS (ws : List Nat) (s : Nat) : List Nat := (idxS s).map fun i => ws.getD i 0
theorem idxS_nodup (s : Nat) : (idxS s).Nodup := List.nodup_range.filter _
theorem idxS_sub {s a : Nat} (h : a &&& s = a) : idxS a = (idxS s).filter (fun i => a.testBit i) ∧ idxS (s - a) = (idxS s).filter (fun i => !a.testBit i) := by
  unfold idxS
  rw [List.filter_filter, List.filter_filter]
  constructor
  · congr 1
    funext i
    have := congrArg (fun x => x.testBit i) h
    simp only [Nat.testBit_and] at this
    exact this.symm
  · congr 1
    funext i
    rw [sub_bits i s a h, Bool.and_comm]
theorem wlS_sub (ws : List Nat) {s a : Nat} (h : a &&& s = a) : (wlS ws s).Perm (wlS ws a ++ wlS ws (s - a)) := by
  obtain ⟨h1, h2⟩ := idxS_sub h
  unfold wlS
  rw [← List.map_append, h1, h2]
  exact (List.filter_append_perm _ _).symm.map _
theorem idxS_pos {s : Nat} (h : idxS s ≠ []) : 0 < s := by
  rcases Nat.eq_zero_or_pos s with h0 | h0
  · subst h0; exact absurd (by decide) h
  · exact h0
/-- a tree over a set falls apart into two sets -/
theorem TC.fall {ws : List Nat} {s c : Nat} (h : TC (wlS ws s) c) (h2 : 2 ≤ (idxS s).length) : ∃ a c1 c2, 0 < a ∧ a < s ∧ a &&& s = a ∧ TC (wlS ws a) c1 ∧ TC (wlS ws (s - a)) c2 ∧ c = c1 + c2 + (wlS ws s).sum := by
  generalize hS : wlS ws s = S at h
  cases h with
  | leaf w =>
    have := congrArg List.length hS
    simp only [wlS, List.length_map, List.length_cons, List.length_nil] at this
    omega
  | @node A B _ c1 c2 t1 t2 hp =>
    subst hS
    obtain ⟨I, hI, hm⟩ := reorder (f := fun i => ws.getD i 0) hp (idxS s) rfl
    have hlen : I.length = A.length + B.length := by
      have := congrArg List.length hm
      simpa using this
    have mA : (I.take A.length).map (fun i => ws.getD i 0) = A := by rw [List.map_take, hm, List.take_left' rfl]
    have mB : (I.drop A.length).map (fun i => ws.getD i 0) = B := by rw [List.map_drop, hm, List.drop_left' rfl]
    have hsp : I.take A.length ++ I.drop A.length = I := List.take_append_drop _ _
    generalize I.take A.length = IA at mA hsp
    generalize I.drop A.length = IB at mB hsp
    subst hsp
    have hnd : (IA ++ IB).Nodup := hI.nodup_iff.2 (idxS_nodup s)
    have hdis := (List.nodup_append.1 hnd).2.2
    have hin : ∀ i, i ∈ IA ++ IB ↔ i ∈ idxS s := fun i => hI.mem_iff
    have hbit : ∀ i, i ∈ idxS s → i < 8 ∧ s.testBit i = true := fun i hi => by
      unfold idxS at hi
      obtain ⟨h3, h4⟩ := List.mem_filter.1 hi
      exact ⟨List.mem_range.1 h3, h4⟩
    have ha : mkS (fun i => decide (i ∈ IA)) 8 &&& s = mkS (fun i => decide (i ∈ IA)) 8 := by
      apply Nat.eq_of_testBit_eq
      intro i
      rw [Nat.testBit_and, mkS_bit]
      by_cases hi : i ∈ IA
      · obtain ⟨h3, h4⟩ := hbit i ((hin i).1 (List.mem_append_left _ hi))
        simp [h3, h4, hi]
      · simp [hi]
    have hb : ∀ i, i ∈ idxS s → (mkS (fun i => decide (i ∈ IA)) 8).testBit i = decide (i ∈ IA) := fun i hi => by
      rw [mkS_bit, decide_eq_true (hbit i hi).1, Bool.true_and]
    generalize mkS (fun i => decide (i ∈ IA)) 8 = a at ha hb
    obtain ⟨s1, s2⟩ := idxS_sub ha
    have p1 : (idxS a).Perm IA := by
      rw [s1, List.filter_congr (q := fun i => decide (i ∈ IA)) (fun i hi => hb i hi)]
      refine (hI.symm.filter _).trans ?_
      rw [List.filter_append, List.filter_eq_self.2 (fun i hi => by simpa using hi), List.filter_eq_nil_iff.2 (fun i hi => by simp; intro h; exact hdis i h i hi rfl), List.append_nil]
    have p2 : (idxS (s - a)).Perm IB := by
      rw [s2, List.filter_congr (q := fun i => !decide (i ∈ IA)) (fun i hi => by rw [hb i hi])]
      refine (hI.symm.filter _).trans ?_
      rw [List.filter_append, List.filter_eq_nil_iff.2 (fun i hi => by simpa using hi), List.filter_eq_self.2 (fun i hi => by simp; intro h; exact hdis i h i hi rfl), List.nil_append]
    have q1 : (wlS ws a).Perm A := by unfold wlS; rw [← mA]; exact p1.map _
    have q2 : (wlS ws (s - a)).Perm B := by unfold wlS; rw [← mB]; exact p2.map _
    have n1 : idxS a ≠ [] := fun e => t1.ne (by rw [← mA, List.map_eq_nil_iff]; rw [e] at p1; exact p1.nil_eq.symm)
    have n2 : idxS (s - a) ≠ [] := fun e => t2.ne (by rw [← mB, List.map_eq_nil_iff]; rw [e] at p2; exact p2.nil_eq.symm)
    have a1 := idxS_pos n1
    have a2 := idxS_pos n2
    exact ⟨a, c1, c2, a1, by omega, ha, t1.perm q1, t2.perm q2, rfl⟩
/-- what the least of a set is, by all that it falls apart into -/
theorem MinT.of_all {ws : List Nat} {s best : Nat} (h2 : 2 ≤ (idxS s).length) (t : Nat → Nat) (ht : ∀ a, 0 < a → a < s → MinT (wlS ws a) (t a)) (hin : ∃ a, 0 < a ∧ a < s ∧ a &&& s = a ∧ t a + t (s - a) = best)
    (hle : ∀ a, 0 < a → a < s → a &&& s = a → best ≤ t a + t (s - a)) : MinT (wlS ws s) (best + (wlS ws s).sum) := by
  refine ⟨?_, fun c hc => ?_⟩
  · obtain ⟨a, h0, h1, h3, rfl⟩ := hin
    exact .node (ht a h0 h1).1 (ht (s - a) (by omega) (by omega)).1 (wlS_sub ws h3)
  · obtain ⟨a, c1, c2, a0, a1, a2, t1, t2, rfl⟩ := hc.fall h2
    have := hle a a0 a1 a2
    have := (ht a a0 a1).2 _ t1
    have := (ht (s - a) (by omega) (by omega)).2 _ t2
    omega
theorem idx_two : ∀ s : Fin 256, (s.val &&& (s.val - 1) ≠ 0 → 2 ≤ (idxS s.val).length) ∧ (s.val &&& (s.val - 1) = 0 → 0 < s.val → (idxS s.val).length = 1) := by decide +kernel
/-- some set of a larger one -/
theorem some_sub {s : Nat} (hs : s < 256) (h2 : 2 ≤ (idxS s).length) : ∃ a, 0 < a ∧ a < s ∧ a &&& s = a := by
  have h : TC (wlS (List.replicate 8 0) s) ((wlS (List.replicate 8 0) s).length) ∨ True := .inr trivial
  have ht : ∀ l : List Nat, l ≠ [] → ∃ c, TC l c := by
    intro l
    induction l with
    | nil => intro h; exact absurd rfl h
    | cons x l ih =>
      intro _
      cases l with
      | nil => exact ⟨0, .leaf x⟩
      | cons y l =>
        obtain ⟨c, hc⟩ := ih (by simp)
        exact ⟨_, .node (.leaf x) hc (.refl _)⟩
  obtain ⟨c, hc⟩ := ht (wlS [] s) (by intro e; have := congrArg List.length e; simp [wlS] at this; rw [this] at h2; simp at h2)
  obtain ⟨a, _, _, a0, a1, a2, _⟩ := hc.fall h2
  exact ⟨a, a0, a1, a2⟩
/-- the sum of the first k symbols that a set has -/
def sumTo (ws : List Nat) (s k : Nat) : Nat := (((List.range k).filter fun i => s.testBit i).map fun i => ws.getD i 0).sum
theorem sumTo_next (ws : List Nat) (s k : Nat) : sumTo ws s (k + 1) = sumTo ws s k + if s.testBit k = true then ws.getD k 0 else 0 := by
  unfold sumTo
  rw [List.range_succ, List.filter_append, List.map_append, List.sum_append]
  congr 1
  by_cases h : s.testBit k = true <;> simp [h]
theorem sumTo_all {ws : List Nat} {s n : Nat} (hn : n ≤ 8) (hs : s < 2 ^ n) : sumTo ws s n = (wlS ws s).sum := by
  unfold sumTo wlS idxS
  obtain ⟨m, hm⟩ : ∃ m, 8 = n + m := ⟨8 - n, by omega⟩
  have hnil : (List.map (fun x => n + x) (List.range m)).filter (fun i => s.testBit i) = [] := List.filter_eq_nil_iff.2 fun i hi => by
    obtain ⟨j, _, rfl⟩ := List.mem_map.1 hi
    rw [Nat.testBit_lt_two_pow (Nat.lt_of_lt_of_le hs (Nat.pow_le_pow_right (by omega) (by omega)))]
    simp
  rw [hm, List.range_add, List.filter_append, hnil, List.append_nil]
theorem sumTo_le (ws : List Nat) (s B : Nat) (h : ∀ x ∈ ws, x ≤ B) : ∀ k, sumTo ws s k ≤ k * B
  | 0 => by simp [sumTo]
  | k + 1 => by
    have ih := sumTo_le ws s B h k
    rw [sumTo_next, Nat.succ_mul]
    have : ws.getD k 0 ≤ B := by
      rw [List.getD_eq_getElem?_getD]
      cases hx : ws[k]? with
      | none => simp
      | some x => exact h x (List.mem_of_getElem? hx)
    split <;> omega
/-- the whole set is all weights -/
theorem wlS_full {ws : List Nat} (hn : ws.length ≤ 8) : wlS ws (2 ^ ws.length - 1) = ws := by
  have : idxS (2 ^ ws.length - 1) = List.range ws.length := by
    have h : ∀ n : Fin 9, idxS (2 ^ n.val - 1) = List.range n.val := by decide +kernel
    exact h ⟨ws.length, by omega⟩
  unfold wlS
  rw [this]
  apply List.ext_getElem?
  intro i
  rw [List.getElem?_map]
  rcases Nat.lt_or_ge i ws.length with h | h
  · rw [List.getElem?_range h, List.getElem?_eq_getElem h]
    simp [List.getD, List.getElem?_eq_getElem h]
  · rw [List.getElem?_eq_none (by simpa using h), List.getElem?_eq_none h]; rfl
end Go.Proofs.Ytdidahafbcddeaa

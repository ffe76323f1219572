/-
  All sums of rows, as span.All makes them and as quipuref.Span marks them. Plain words.
-/
import Derived.Test.YtipnnpjinopgoaaSpan
import Derived.Test.YtipnnpjinopgoaaStore
set_option linter.unusedVariables false
namespace Go.Proofs.Ytipnnpjinopgoaa
open Go.RowKit

/-- what span.All has behind k rows -/
def allF (rows : List Nat) : Nat → List Nat
  | 0 => [0]
  | k + 1 => if rows.getD k 0 ∈ allF rows k then allF rows k else allF rows k ++ (allF rows k).map (· ^^^ rows.getD k 0)
theorem xsel_xor (rows : List Nat) (p q : Nat → Bool) : ∀ k, xsel rows (fun j => p j != q j) k = xsel rows p k ^^^ xsel rows q k
  | 0 => by simp [xsel]
  | k + 1 => by
    rw [xsel, xsel, xsel, xsel_xor rows p q k]
    generalize xsel rows p k = a
    generalize xsel rows q k = b
    generalize rows.getD k 0 = r
    have h1 : a ^^^ b ^^^ r = a ^^^ (b ^^^ r) := Nat.xor_assoc _ _ _
    have h2 : a ^^^ r ^^^ b = a ^^^ b ^^^ r := by rw [Nat.xor_assoc, Nat.xor_comm r b, ← Nat.xor_assoc]
    have h3 : a ^^^ r ^^^ (b ^^^ r) = a ^^^ b := by rw [Nat.xor_assoc, Nat.xor_comm b r, ← Nat.xor_assoc r r b, Nat.xor_self, Nat.zero_xor]
    cases p k <;> cases q k <;> simp [h1, h2, h3]
theorem xsel_zero (rows : List Nat) : ∀ k, xsel rows (fun _ => false) k = 0
  | 0 => rfl
  | k + 1 => by rw [xsel, if_neg (by simp), xsel_zero rows k]
theorem mem_allF (rows : List Nat) : ∀ (k w : Nat), w ∈ allF rows k ↔ ∃ p : Nat → Bool, xsel rows p k = w
  | 0, w => by
    rw [allF, List.mem_singleton]
    exact ⟨fun h => ⟨fun _ => false, h.symm⟩, fun ⟨_, h⟩ => h.symm⟩
  | k + 1, w => by
    have ih := mem_allF rows k
    have off : ∀ p : Nat → Bool, xsel rows (fun j => if j = k then false else p j) (k + 1) = xsel rows p k := by
      intro p
      rw [xsel, if_neg (by simp)]
      exact xsel_congr fun j hj => by rw [if_neg (by omega)]
    have on : ∀ p : Nat → Bool, xsel rows (fun j => if j = k then true else p j) (k + 1) = xsel rows p k ^^^ rows.getD k 0 := by
      intro p
      rw [xsel, if_pos (by simp)]
      congr 1
      exact xsel_congr fun j hj => by rw [if_neg (by omega)]
    rw [allF]
    constructor
    · intro h
      have h2 : w ∈ allF rows k ∨ ∃ u ∈ allF rows k, u ^^^ rows.getD k 0 = w := by
        split at h
        · exact .inl h
        · rcases List.mem_append.1 h with h | h
          · exact .inl h
          · obtain ⟨u, hu, e⟩ := List.mem_map.1 h
            exact .inr ⟨u, hu, e⟩
      rcases h2 with h2 | ⟨u, hu, e⟩
      · obtain ⟨p, hp⟩ := (ih w).1 h2
        exact ⟨_, (off p).trans hp⟩
      · obtain ⟨p, hp⟩ := (ih u).1 hu
        exact ⟨_, (on p).trans (by rw [hp, e])⟩
    · rintro ⟨p, hp⟩
      rw [xsel] at hp
      have h1 : xsel rows p k ∈ allF rows k := (ih _).2 ⟨p, rfl⟩
      split
      · rename_i hr
        split at hp
        · obtain ⟨q, hq⟩ := (ih _).1 hr
          refine (ih w).2 ⟨fun j => p j != q j, ?_⟩
          rw [xsel_xor, hq, hp]
        · rw [← hp]; exact h1
      · split at hp
        · exact List.mem_append_right _ (List.mem_map.2 ⟨_, h1, hp⟩)
        · rw [← hp]; exact List.mem_append_left _ h1
theorem allF_xor {rows : List Nat} {k a b : Nat} (ha : a ∈ allF rows k) (hb : b ∈ allF rows k) : a ^^^ b ∈ allF rows k := by
  obtain ⟨p, hp⟩ := (mem_allF rows k a).1 ha
  obtain ⟨q, hq⟩ := (mem_allF rows k b).1 hb
  exact (mem_allF rows k _).2 ⟨fun j => p j != q j, by rw [xsel_xor, hp, hq]⟩
theorem xor_cancel {a b r : Nat} (h : a ^^^ r = b ^^^ r) : a = b := by
  have : a ^^^ r ^^^ r = b ^^^ r ^^^ r := by rw [h]
  rwa [Nat.xor_assoc, Nat.xor_assoc, Nat.xor_self, Nat.xor_zero, Nat.xor_zero] at this
theorem allF_nodup (rows : List Nat) : ∀ k, (allF rows k).Nodup
  | 0 => by simp [allF]
  | k + 1 => by
    rw [allF]
    split
    · exact allF_nodup rows k
    · rename_i hr
      refine List.nodup_append.2 ⟨allF_nodup rows k, ?_, ?_⟩
      · exact List.pairwise_map.2 ((allF_nodup rows k).imp fun h e => h (xor_cancel e))
      · intro a ha b hb e
        subst e
        obtain ⟨u, hu, e⟩ := List.mem_map.1 hb
        refine hr ?_
        have h := allF_xor hu ha
        rw [← e, ← Nat.xor_assoc, Nat.xor_self, Nat.zero_xor] at h
        exact h
theorem allF_len (rows : List Nat) : ∀ k, ∃ j, j ≤ k ∧ (allF rows k).length = 2 ^ j
  | 0 => ⟨0, Nat.le_refl _, rfl⟩
  | k + 1 => by
    obtain ⟨j, h1, h2⟩ := allF_len rows k
    rw [allF]
    split
    · exact ⟨j, by omega, h2⟩
    · refine ⟨j + 1, by omega, ?_⟩
      rw [List.length_append, List.length_map, h2, Nat.pow_succ]
      omega
theorem allF_lt {m : Nat} {rows : List Nat} (h : ∀ x ∈ rows, x < 2 ^ m) {k w : Nat} (hw : w ∈ allF rows k) : w < 2 ^ m := by
  obtain ⟨p, rfl⟩ := (mem_allF rows k w).1 hw
  exact xsel_lt h p k
/-- what quipuref.Span has marked behind s sets -/
def marked (rows : List Nat) (n s w : Nat) : Bool := (List.range s).any fun t => xsel rows (bitB t) n == w
def spanR (rows : List Nat) (n m : Nat) : List Nat := (List.range (2 ^ m)).filter (marked rows n (2 ^ n))
theorem marked_next (rows : List Nat) (n s w : Nat) : marked rows n (s + 1) w = (marked rows n s w || (xsel rows (bitB s) n == w)) := by
  unfold marked
  rw [List.range_succ, List.any_append]
  simp
theorem marked_all (rows : List Nat) (n w : Nat) : marked rows n (2 ^ n) w = true ↔ w ∈ allF rows n := by
  rw [mem_allF]
  unfold marked
  rw [List.any_eq_true]
  constructor
  · rintro ⟨t, _, h⟩
    exact ⟨bitB t, by simpa using h⟩
  · rintro ⟨p, hp⟩
    refine ⟨setW ((List.range n).map p), List.mem_range.2 (by have := setW_lt ((List.range n).map p); simpa using this), ?_⟩
    have : xsel rows (bitB (setW ((List.range n).map p))) n = xsel rows p n := by
      refine xsel_congr fun j hj => ?_
      rw [setW_bit, List.getD_eq_getElem?_getD, List.getElem?_map, List.getElem?_range hj]
      rfl
    rw [this, hp]
    simp
theorem strict_eq : ∀ (a b : List Nat), a.Pairwise (fun x y => x < y) → b.Pairwise (fun x y => x < y) → (∀ x, x ∈ a ↔ x ∈ b) → a = b
  | [], [], _, _, _ => rfl
  | [], y :: b, _, _, h => absurd ((h y).2 (by simp)) (by simp)
  | x :: a, [], _, _, h => absurd ((h x).1 (by simp)) (by simp)
  | x :: a, y :: b, ha, hb, h => by
    rw [List.pairwise_cons] at ha hb
    have hxy : x = y := by
      rcases List.mem_cons.1 ((h x).1 (by simp)) with e | e
      · exact e
      · rcases List.mem_cons.1 ((h y).2 (by simp)) with e2 | e2
        · exact e2.symm
        · have := hb.1 x e
          have := ha.1 y e2
          omega
    subst hxy
    congr 1
    refine strict_eq a b ha.2 hb.2 fun z => ⟨fun hz => ?_, fun hz => ?_⟩
    · rcases List.mem_cons.1 ((h z).1 (by simp [hz])) with e | e
      · subst e; have := ha.1 z hz; omega
      · exact e
    · rcases List.mem_cons.1 ((h z).2 (by simp [hz])) with e | e
      · subst e; have := hb.1 z hz; omega
      · exact e
theorem sorted_span {rows r : List Nat} {n m : Nat} (hm : ∀ x ∈ rows, x < 2 ^ m) (hp : r.Perm (allF rows n)) (hs : r.Pairwise (fun x y => x ≤ y)) : r = spanR rows n m := by
  have hnd : r.Nodup := hp.nodup_iff.2 (allF_nodup rows n)
  refine strict_eq _ _ ?_ ?_ fun x => ?_
  · exact (List.Pairwise.and hs hnd).imp fun ⟨h1, h2⟩ => Nat.lt_of_le_of_ne h1 h2
  · exact List.Pairwise.filter _ List.pairwise_lt_range
  · unfold spanR
    rw [List.mem_filter, List.mem_range, marked_all, hp.mem_iff]
    exact ⟨fun h => ⟨allF_lt hm h, h⟩, fun h => h.2⟩
theorem spanR_perm {rows : List Nat} {n m : Nat} (hm : ∀ x ∈ rows, x < 2 ^ m) : (spanR rows n m).Perm (allF rows n) := by
  refine (List.perm_ext_iff_of_nodup ?_ (allF_nodup rows n)).2 fun x => ?_
  · exact List.Pairwise.filter _ List.nodup_range
  · unfold spanR
    rw [List.mem_filter, List.mem_range, marked_all]
    exact ⟨fun h => h.2, fun h => ⟨allF_lt hm h, h⟩⟩
end Go.Proofs.Ytipnnpjinopgoaa

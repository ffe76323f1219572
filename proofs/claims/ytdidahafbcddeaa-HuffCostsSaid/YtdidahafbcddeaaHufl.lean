/-
  Huffman: the two lightest become one: the least cost of all trees. Plain words.
-/
import Derived.Test.YtdidahafbcddeaaBase
set_option linter.unusedVariables false
namespace Go.Proofs.Ytdidahafbcddeaa

theorem sum_perm {l l' : List Nat} (h : l.Perm l') : l.sum = l'.sum := h.sum_nat
/-- a tree over these weights costs c: each node costs what all below it weigh -/
inductive TC : List Nat → Nat → Prop
  | leaf (w : Nat) : TC [w] 0
  | node {A B S : List Nat} {c1 c2 : Nat} : TC A c1 → TC B c2 → S.Perm (A ++ B) → TC S (c1 + c2 + S.sum)
theorem TC.perm {S S' : List Nat} {c : Nat} (h : TC S c) (hp : S'.Perm S) : TC S' c := by
  cases h with
  | leaf w => rw [List.perm_singleton.1 hp]; exact .leaf w
  | node h1 h2 hs =>
    rw [← sum_perm hp]
    exact .node h1 h2 (hp.trans hs)
theorem TC.ne {S : List Nat} {c : Nat} (h : TC S c) : S ≠ [] := by
  induction h with
  | leaf w => simp
  | node h1 h2 hs ih1 ih2 =>
    intro e
    subst e
    have := hs.length_eq
    simp only [List.length_nil, List.length_append] at this
    exact ih1 (List.eq_nil_of_length_eq_zero (by omega))
theorem TC.one {w c : Nat} (h : TC [w] c) : c = 0 := by
  generalize hS : [w] = S at h
  cases h with
  | leaf => rfl
  | node h1 h2 hs =>
    subst hS
    have := hs.length_eq
    have n1 := List.length_pos_iff.2 h1.ne
    have n2 := List.length_pos_iff.2 h2.ne
    simp only [List.length_cons, List.length_nil, List.length_append] at this
    omega
theorem mem_split_perm {α : Type} {x : α} {l : List α} (h : x ∈ l) : ∃ r, l.Perm (x :: r) := by
  obtain ⟨a, b, rfl⟩ := List.append_of_mem h
  exact ⟨a ++ b, List.perm_middle⟩
/-- a leaf grows to two -/
theorem TC.expand {S : List Nat} {c : Nat} (h : TC S c) : ∀ (a b : Nat) (W : List Nat), S.Perm ((a + b) :: W) → TC (a :: b :: W) (c + a + b) := by
  induction h with
  | leaf w =>
    intro a b W hp
    have h1 := hp.symm
    have h2 := List.perm_singleton.1 h1
    injection h2 with e1 e2
    subst e1
    subst e2
    have := TC.node (TC.leaf a) (TC.leaf b) (List.Perm.refl ([a, b]))
    simpa [Nat.add_comm, Nat.add_left_comm] using this
  | @node A B S c1 c2 h1 h2 hs ih1 ih2 =>
    intro a b W hp
    have hm : a + b ∈ A ++ B := hs.mem_iff.1 (hp.mem_iff.2 (by simp))
    have hsum : S.sum = a + b + W.sum := by rw [sum_perm hp]; simp
    rcases List.mem_append.1 hm with hm | hm
    · obtain ⟨A', hA⟩ := mem_split_perm hm
      have hW : W.Perm (A' ++ B) := by
        have h3 : ((a + b) :: W).Perm ((a + b) :: (A' ++ B)) := hp.symm.trans (hs.trans (hA.append_right B))
        exact h3.cons_inv
      have := TC.node (ih1 a b A' hA) h2 (show (a :: b :: W).Perm ((a :: b :: A') ++ B) from (hW.cons b).cons a)
      have e : c1 + c2 + S.sum + a + b = c1 + a + b + c2 + (a :: b :: W).sum := by rw [hsum]; simp; omega
      rw [e]; exact this
    · obtain ⟨B', hB⟩ := mem_split_perm hm
      have hW : W.Perm (A ++ B') := by
        have h3 : ((a + b) :: W).Perm ((a + b) :: (A ++ B')) := hp.symm.trans (hs.trans ((hB.append_left A).trans List.perm_middle))
        exact h3.cons_inv
      have hP : (a :: b :: W).Perm (A ++ (a :: b :: B')) := by
        refine ((hW.cons b).cons a).trans ?_
        refine List.Perm.trans ?_ List.perm_middle.symm
        exact (List.perm_middle.symm).cons a
      have := TC.node h1 (ih2 a b B' hB) hP
      have e : c1 + c2 + S.sum + a + b = c1 + (c2 + a + b) + (a :: b :: W).sum := by rw [hsum]; simp; omega
      rw [e]; exact this
/-- the shape of a tree -/
inductive Sh where
  | leaf : Sh
  | node : Sh → Sh → Sh
def Sh.deps : Sh → List Nat
  | .leaf => [0]
  | .node l r => (l.deps ++ r.deps).map (· + 1)
theorem Sh.pos : ∀ s : Sh, 0 < s.deps.length
  | .leaf => by simp [Sh.deps]
  | .node l r => by have := Sh.pos l; simp [Sh.deps]; omega
/-- weights and depths -/
def pcost (L : List (Nat × Nat)) : Nat := (L.map fun x => x.1 * x.2).sum
theorem pcost_perm {L L' : List (Nat × Nat)} (h : L.Perm L') : pcost L = pcost L' := sum_perm (h.map _)
theorem pcost_cons (x : Nat × Nat) (L : List (Nat × Nat)) : pcost (x :: L) = x.1 * x.2 + pcost L := by simp [pcost]
theorem pcost_append (L L' : List (Nat × Nat)) : pcost (L ++ L') = pcost L + pcost L' := by simp [pcost]
theorem pcost_up : ∀ L : List (Nat × Nat), pcost (L.map fun x => (x.1, x.2 + 1)) = pcost L + (L.map Prod.fst).sum
  | [] => rfl
  | x :: r => by rw [List.map_cons, pcost_cons, pcost_cons, pcost_up r]; simp [Nat.mul_add]; omega
theorem reorder {α β : Type} {f : α → β} {l1 l2 : List β} (h : l1.Perm l2) : ∀ L : List α, L.map f = l1 → ∃ L' : List α, L'.Perm L ∧ L'.map f = l2 := by
  induction h with
  | nil => intro L hL; exact ⟨L, .refl _, hL⟩
  | cons x h ih =>
    intro L hL
    cases L with
    | nil => simp at hL
    | cons y L =>
      simp only [List.map_cons, List.cons.injEq] at hL
      obtain ⟨L', h1, h2⟩ := ih L hL.2
      exact ⟨y :: L', h1.cons y, by rw [List.map_cons, h2, hL.1]⟩
  | swap x y l =>
    intro L hL
    match L, hL with
    | a :: b :: L, hL =>
      simp only [List.map_cons, List.cons.injEq] at hL
      exact ⟨b :: a :: L, .swap a b L, by rw [List.map_cons, List.map_cons, hL.1, hL.2.1, hL.2.2]⟩
  | trans h1 h2 ih1 ih2 =>
    intro L hL
    obtain ⟨L', p1, e1⟩ := ih1 L hL
    obtain ⟨L'', p2, e2⟩ := ih2 L' e1
    exact ⟨L'', p2.trans p1, e2⟩
theorem TC.shape {S : List Nat} {c : Nat} (h : TC S c) : ∃ (s : Sh) (L : List (Nat × Nat)), L.map Prod.snd = s.deps ∧ (L.map Prod.fst).Perm S ∧ pcost L = c := by
  induction h with
  | leaf w => exact ⟨.leaf, [(w, 0)], rfl, .refl _, by simp [pcost]⟩
  | @node A B S c1 c2 h1 h2 hs ih1 ih2 =>
    obtain ⟨s1, L1, d1, p1, e1⟩ := ih1
    obtain ⟨s2, L2, d2, p2, e2⟩ := ih2
    have hf : ((L1 ++ L2).map Prod.fst).Perm S := by rw [List.map_append]; exact (p1.append p2).trans hs.symm
    refine ⟨.node s1 s2, (L1 ++ L2).map fun x => (x.1, x.2 + 1), ?_, ?_, ?_⟩
    · rw [Sh.deps, ← d1, ← d2, ← List.map_append, List.map_map, List.map_map]; rfl
    · rw [List.map_map]; exact hf
    · rw [pcost_up, pcost_append, e1, e2, sum_perm hf]
theorem TC.of_shape : ∀ (s : Sh) (L : List (Nat × Nat)), L.map Prod.snd = s.deps → TC (L.map Prod.fst) (pcost L)
  | .leaf, L, h => by
    match L, h with
    | [(w, d)], h =>
      simp only [List.map_cons, List.map_nil, Sh.deps, List.cons.injEq, and_true] at h
      subst h
      simpa [pcost] using TC.leaf w
  | .node l r, L, h => by
    rw [Sh.deps, List.map_append] at h
    have hl : L.length = l.deps.length + r.deps.length := by
      have := congrArg List.length h
      simpa using this
    have h1 : (L.take l.deps.length).map Prod.snd = l.deps.map (· + 1) := by
      rw [List.map_take, h, List.take_left' (by simp)]
    have h2 : (L.drop l.deps.length).map Prod.snd = r.deps.map (· + 1) := by
      rw [List.map_drop, h, List.drop_left' (by simp)]
    have hdown : ∀ (M : List (Nat × Nat)) (D : List Nat), M.map Prod.snd = D.map (· + 1) → (M.map fun x => (x.1, x.2 - 1)).map Prod.snd = D ∧ M = (M.map fun x => (x.1, x.2 - 1)).map fun x => (x.1, x.2 + 1) := by
      intro M
      induction M with
      | nil => intro D hD; cases D with
        | nil => exact ⟨rfl, rfl⟩
        | cons y D => simp at hD
      | cons x M ih =>
        intro D hD
        cases D with
        | nil => simp at hD
        | cons y D =>
          simp only [List.map_cons, List.cons.injEq] at hD
          obtain ⟨i1, i2⟩ := ih D hD.2
          obtain ⟨x1, x2⟩ := x
          simp only at hD
          refine ⟨?_, ?_⟩
          · simp only [List.map_cons, i1, List.cons.injEq, and_true]; omega
          · simp only [List.map_cons, List.cons.injEq]
            exact ⟨by rw [Nat.sub_add_cancel (by omega)], i2⟩
    obtain ⟨u1, u2⟩ := hdown _ _ h1
    obtain ⟨v1, v2⟩ := hdown _ _ h2
    have t1 := TC.of_shape l _ u1
    have t2 := TC.of_shape r _ v1
    generalize (L.take l.deps.length).map (fun x => (x.1, x.2 - 1)) = M1 at u1 u2 t1
    generalize (L.drop l.deps.length).map (fun x => (x.1, x.2 - 1)) = M2 at v1 v2 t2
    have hL : L = (M1 ++ M2).map fun x => (x.1, x.2 + 1) := by
      rw [List.map_append, ← u2, ← v2, List.take_append_drop]
    have hf : L.map Prod.fst = M1.map Prod.fst ++ M2.map Prod.fst := by rw [hL, List.map_map, ← List.map_append]; rfl
    have := TC.node t1 t2 (show (L.map Prod.fst).Perm (M1.map Prod.fst ++ M2.map Prod.fst) by rw [hf])
    have e : pcost L = pcost M1 + pcost M2 + (L.map Prod.fst).sum := by
      conv => lhs; rw [hL]
      rw [pcost_up, pcost_append, hf, List.map_append]
    rw [e]; exact this
/-- two leaves at the greatest depth, beside each other -/
theorem Sh.deep : ∀ s : Sh, 2 ≤ s.deps.length → ∃ (δ : Nat) (R : List Nat) (s' : Sh), s.deps.Perm ((δ + 1) :: (δ + 1) :: R) ∧ (∀ x ∈ s.deps, x ≤ δ + 1) ∧ s'.deps.Perm (δ :: R)
  | .leaf, h => by simp [Sh.deps] at h
  | .node l r, h => by
    have up : ∀ (δ : Nat) (R : List Nat) (s s' t : Sh), s.deps.Perm ((δ + 1) :: (δ + 1) :: R) → (∀ x ∈ s.deps, x ≤ δ + 1) → s'.deps.Perm (δ :: R) → (∀ x ∈ t.deps, x ≤ δ + 1) →
        (((s.deps ++ t.deps).map (· + 1)).Perm ((δ + 1 + 1) :: (δ + 1 + 1) :: (R ++ t.deps).map (· + 1)) ∧ (∀ x ∈ (s.deps ++ t.deps).map (· + 1), x ≤ δ + 1 + 1) ∧ ((s'.deps ++ t.deps).map (· + 1)).Perm ((δ + 1) :: (R ++ t.deps).map (· + 1))) := by
      intro δ R s s' t h1 h2 h3 h4
      refine ⟨?_, ?_, ?_⟩
      · exact (h1.append_right t.deps).map (· + 1)
      · intro x hx
        obtain ⟨y, hy, rfl⟩ := List.mem_map.1 hx
        rcases List.mem_append.1 hy with hy | hy
        · have := h2 y hy; omega
        · have := h4 y hy; omega
      · exact (h3.append_right t.deps).map (· + 1)
    by_cases hl : 2 ≤ l.deps.length
    · obtain ⟨δ, R, l', h1, h2, h3⟩ := Sh.deep l hl
      by_cases hr : 2 ≤ r.deps.length
      · obtain ⟨δ', R', r', g1, g2, g3⟩ := Sh.deep r hr
        rcases Nat.le_total δ' δ with hd | hd
        · obtain ⟨a, b, c⟩ := up δ R l l' r h1 h2 h3 (fun x hx => by have := g2 x hx; omega)
          exact ⟨δ + 1, _, .node l' r, a, b, c⟩
        · obtain ⟨a, b, c⟩ := up δ' R' r r' l g1 g2 g3 (fun x hx => by have := h2 x hx; omega)
          refine ⟨δ' + 1, _, .node l r', List.Perm.trans ?_ a, fun x hx => b x ?_, List.Perm.trans ?_ c⟩
          · exact List.perm_append_comm.map _
          · exact (List.perm_append_comm.map _).mem_iff.1 hx
          · exact List.perm_append_comm.map _
      · have hr1 : r = .leaf := by
          cases r with
          | leaf => rfl
          | node a b => have := Sh.pos a; have := Sh.pos b; simp [Sh.deps] at hr; omega
        subst hr1
        obtain ⟨a, b, c⟩ := up δ R l l' .leaf h1 h2 h3 (fun x hx => by simp [Sh.deps] at hx; omega)
        exact ⟨δ + 1, _, .node l' .leaf, a, b, c⟩
    · have hl1 : l = .leaf := by
        cases l with
        | leaf => rfl
        | node a b => have := Sh.pos a; have := Sh.pos b; simp [Sh.deps] at hl; omega
      subst hl1
      by_cases hr : 2 ≤ r.deps.length
      · obtain ⟨δ', R', r', g1, g2, g3⟩ := Sh.deep r hr
        obtain ⟨a, b, c⟩ := up δ' R' r r' .leaf g1 g2 g3 (fun x hx => by simp [Sh.deps] at hx; omega)
        refine ⟨δ' + 1, _, .node .leaf r', List.Perm.trans ?_ a, fun x hx => b x ?_, List.Perm.trans ?_ c⟩
        · exact List.perm_append_comm.map _
        · exact (List.perm_append_comm.map _).mem_iff.1 hx
        · exact List.perm_append_comm.map _
      · have hr1 : r = .leaf := by
          cases r with
          | leaf => rfl
          | node a b => have := Sh.pos a; have := Sh.pos b; simp [Sh.deps] at hr; omega
        subst hr1
        exact ⟨0, [], .leaf, by simp [Sh.deps], by simp [Sh.deps], by simp [Sh.deps]⟩
/-- the least weight goes deepest -/
theorem place_least (a x δ : Nat) (K : List (Nat × Nat)) (hd : ∀ y ∈ K, y.2 ≤ δ) (ha : a = x ∨ a ∈ K.map Prod.fst) (hm : a ≤ x) : ∃ K' : List (Nat × Nat), K'.map Prod.snd = K.map Prod.snd ∧ (a :: K'.map Prod.fst).Perm (x :: K.map Prod.fst) ∧ a * δ + pcost K' ≤ x * δ + pcost K := by
  rcases ha with rfl | ha
  · exact ⟨K, rfl, .refl _, Nat.le_refl _⟩
  · obtain ⟨⟨a', p⟩, hy, rfl⟩ := List.mem_map.1 ha
    obtain ⟨U, V, rfl⟩ := List.append_of_mem hy
    refine ⟨U ++ (x, p) :: V, by simp, ?_, ?_⟩
    · simp only [List.map_append, List.map_cons]
      refine List.Perm.trans ((List.perm_middle).cons _) ?_
      refine List.Perm.trans (List.Perm.swap _ _ _) ?_
      exact (List.perm_middle.symm).cons x
    · have hp := hd _ hy
      simp only at hp hm ⊢
      rw [pcost_append, pcost_append, pcost_cons, pcost_cons]
      simp only
      obtain ⟨e, rfl⟩ : ∃ e, x = a' + e := ⟨x - a', by omega⟩
      obtain ⟨f, rfl⟩ : ∃ f, δ = p + f := ⟨δ - p, by omega⟩
      simp only [Nat.add_mul, Nat.mul_add]
      have := Nat.zero_le (e * f)
      omega
/-- the two lightest may be beside each other -/
theorem TC.lower {S : List Nat} {c a b : Nat} {W : List Nat} (h : TC S c) (hS : S.Perm (a :: b :: W)) (hab : a ≤ b) (hb : ∀ x ∈ W, b ≤ x) : ∃ c', TC ((a + b) :: W) c' ∧ c' + a + b ≤ c := by
  obtain ⟨s, L, hd, hf, rfl⟩ := h.shape
  have hlen : 2 ≤ s.deps.length := by
    rw [← hd, List.length_map]
    have := (hf.trans hS).length_eq
    simp at this
    omega
  obtain ⟨δ, R, s', h1, h2, h3⟩ := Sh.deep s hlen
  obtain ⟨L', hp, hL'⟩ := reorder (f := Prod.snd) h1 L hd
  have hle : ∀ y ∈ L', y.2 ≤ δ + 1 := fun y hy => h2 _ (by rw [← hd]; exact List.mem_map_of_mem (hp.mem_iff.1 hy))
  match L', hL', hp, hle with
  | (x, dx) :: (y, dy) :: L0, hL', hp, hle =>
    simp only [List.map_cons, List.cons.injEq] at hL'
    obtain ⟨rfl, rfl, hR⟩ := hL'
    have hfx : (x :: y :: L0.map Prod.fst).Perm (a :: b :: W) := ((hp.map Prod.fst).trans hf).trans hS
    have ha : ∀ z ∈ (a :: b :: W), a ≤ z := by
      intro z hz
      rcases List.mem_cons.1 hz with rfl | hz
      · exact Nat.le_refl _
      · rcases List.mem_cons.1 hz with rfl | hz
        · exact hab
        · exact Nat.le_trans hab (hb z hz)
    obtain ⟨K1, k1, k2, k3⟩ := place_least a x (δ + 1) ((y, δ + 1) :: L0) (fun z hz => hle z (List.mem_cons_of_mem _ hz)) (by
      have : a ∈ x :: y :: L0.map Prod.fst := hfx.mem_iff.2 (by simp)
      rcases List.mem_cons.1 this with h | h
      · exact .inl h
      · exact .inr h) (ha x (hfx.mem_iff.1 (by simp)))
    match K1, k1, k2, k3 with
    | (y', dy') :: L1, k1, k2, k3 =>
      simp only [List.map_cons, List.cons.injEq] at k1 k2
      obtain ⟨rfl, k1⟩ := k1
      have hf2 : (y' :: L1.map Prod.fst).Perm (b :: W) := (k2.trans hfx).cons_inv
      have hb2 : ∀ z ∈ (b :: W), b ≤ z := by
        intro z hz
        rcases List.mem_cons.1 hz with rfl | hz
        · exact Nat.le_refl _
        · exact hb z hz
      obtain ⟨K2, m1, m2, m3⟩ := place_least b y' (δ + 1) L1 (fun z hz => by
          have : z.2 ∈ L1.map Prod.snd := List.mem_map_of_mem hz
          rw [k1] at this
          obtain ⟨q, hq, e⟩ := List.mem_map.1 this
          rw [← e]
          exact hle q (by simp [hq])) (by
        have : b ∈ y' :: L1.map Prod.fst := hf2.mem_iff.2 (by simp)
        rcases List.mem_cons.1 this with h | h
        · exact .inl h
        · exact .inr h) (hb2 y' (hf2.mem_iff.1 (by simp)))
      have hf3 : (K2.map Prod.fst).Perm W := (m2.trans hf2).cons_inv
      have hsn : (((a + b, δ) :: K2).map Prod.snd).Perm s'.deps := by
        rw [List.map_cons, m1, k1, hR]
        exact h3.symm
      obtain ⟨K3, n1, n2⟩ := reorder (f := Prod.snd) hsn ((a + b, δ) :: K2) rfl
      have ht := TC.of_shape s' K3 n2
      refine ⟨pcost K3, ht.perm ?_, ?_⟩
      · exact ((hf3.symm).cons (a + b)).trans ((n1.map Prod.fst).symm)
      · rw [pcost_perm n1, pcost_cons]
        have e2 : pcost L = x * (δ + 1) + (y * (δ + 1) + pcost L0) := by rw [← pcost_perm hp, pcost_cons, pcost_cons]
        rw [e2]
        rw [pcost_cons, pcost_cons] at k3
        simp only at k3 m3 ⊢
        simp only [Nat.mul_add, Nat.add_mul, Nat.mul_one] at k3 m3 ⊢
        omega
/-- the least cost -/
def MinT (S : List Nat) (c : Nat) : Prop := TC S c ∧ ∀ c', TC S c' → c ≤ c'
theorem MinT.uniq {S : List Nat} {c c' : Nat} (h : MinT S c) (h' : MinT S c') : c = c' := Nat.le_antisymm (h.2 _ h'.1) (h'.2 _ h.1)
theorem MinT.perm {S S' : List Nat} {c : Nat} (h : MinT S c) (hp : S'.Perm S) : MinT S' c := ⟨h.1.perm hp, fun c' h' => h.2 c' (h'.perm hp.symm)⟩
theorem MinT.one (w : Nat) : MinT [w] 0 := ⟨.leaf w, fun _ _ => Nat.zero_le _⟩
/-- what was paid so far, and the trees that are left: together they tell the least of all -/
structure Paid (ws cur : List Nat) (C : Nat) : Prop where
  up : ∀ c, TC cur c → TC ws (C + c)
  lo : ∀ c, TC ws c → ∃ c', TC cur c' ∧ C + c' ≤ c
theorem Paid.start (ws : List Nat) : Paid ws ws 0 := ⟨fun c h => by rw [Nat.zero_add]; exact h, fun c h => ⟨c, h, by omega⟩⟩
theorem Paid.perm {ws cur cur' : List Nat} {C : Nat} (h : Paid ws cur C) (hp : cur'.Perm cur) : Paid ws cur' C := ⟨fun c hc => h.up c (hc.perm hp.symm), fun c hc => by obtain ⟨c', h1, h2⟩ := h.lo c hc; exact ⟨c', h1.perm hp, h2⟩⟩
theorem Paid.step {ws : List Nat} {C a b : Nat} {W : List Nat} (h : Paid ws (a :: b :: W) C) (hab : a ≤ b) (hb : ∀ x ∈ W, b ≤ x) : Paid ws ((a + b) :: W) (C + (a + b)) :=
  ⟨fun c hc => by
    have := h.up _ (hc.expand a b W (.refl _))
    rw [show C + (a + b) + c = C + (c + a + b) by omega]; exact this,
   fun c hc => by
    obtain ⟨c', h1, h2⟩ := h.lo c hc
    obtain ⟨c'', h3, h4⟩ := h1.lower (.refl _) hab hb
    exact ⟨c'', h3, by omega⟩⟩
theorem Paid.done {ws : List Nat} {C w : Nat} (h : Paid ws [w] C) : MinT ws C :=
  ⟨by have := h.up 0 (.leaf w); simpa using this, fun c hc => by
    obtain ⟨c', h1, h2⟩ := h.lo c hc
    omega⟩
end Go.Proofs.Ytdidahafbcddeaa

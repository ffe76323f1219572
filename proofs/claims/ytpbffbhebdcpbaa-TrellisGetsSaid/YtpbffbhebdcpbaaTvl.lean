/-
  Of each state the best path: it comes to the same as all data tried one after the other. Plain words.
-/
import Derived.Test.YtpbffbhebdcpbaaTrel
import Derived.Test.YtpbffbhebdcpbaaBosel
import Derived.Test.YtpbffbhebdcpbaaDigits
set_option linter.unusedVariables false
namespace Go.Proofs.Ytpbffbhebdcpbaa
open Go.RowKit

def tb (b : Bool) : Nat := if b then 1 else 0
theorem tb_le (b : Bool) : tb b ≤ 1 := by cases b <;> decide
/-- bits as a number, the greatest first -/
def num (p : List Bool) : Nat := p.foldl (fun a b => 2 * a + tb b) 0
theorem foldl_num : ∀ (p : List Bool) (a : Nat), p.foldl (fun a b => 2 * a + tb b) a = a * 2 ^ p.length + num p
  | [], a => by simp [num]
  | x :: t, a => by
    unfold num
    rw [List.foldl_cons, List.foldl_cons, foldl_num t (2 * a + tb x), foldl_num t (2 * 0 + tb x), List.length_cons, Nat.pow_succ, Nat.add_mul, Nat.add_mul]
    have : 2 * a * 2 ^ t.length = a * (2 ^ t.length * 2) := by rw [Nat.mul_comm 2 a, Nat.mul_assoc, Nat.mul_comm 2]
    omega
theorem num_snoc (p : List Bool) (b : Bool) : num (p ++ [b]) = 2 * num p + tb b := by simp [num]
theorem num_cons (x : Bool) (t : List Bool) : num (x :: t) = tb x * 2 ^ t.length + num t := by
  show (x :: t).foldl _ 0 = _
  rw [List.foldl_cons, foldl_num]; simp
theorem num_lt : ∀ p : List Bool, num p < 2 ^ p.length
  | [] => by simp [num]
  | x :: t => by
    have := num_lt t
    rw [num_cons, List.length_cons, Nat.pow_succ]
    have h : tb x * 2 ^ t.length ≤ 2 ^ t.length := by cases x <;> simp [tb]
    omega
theorem num_inj : ∀ {p q : List Bool}, p.length = q.length → num p = num q → p = q
  | [], [], _, _ => rfl
  | [], _ :: _, h, _ => by simp at h
  | _ :: _, [], h, _ => by simp at h
  | x :: p, y :: q, h, he => by
    have hl : p.length = q.length := by simpa using h
    rw [num_cons, num_cons, hl] at he
    have h1 := num_lt p
    have h2 := num_lt q
    rw [hl] at h1
    have hxy : x = y := by
      cases x <;> cases y
      · rfl
      · simp [tb] at he; omega
      · simp [tb] at he; omega
      · rfl
    subst hxy
    rw [num_inj hl (by omega)]
/-- 0 where both first differ -/
def lexlt : List Bool → List Bool → Bool
  | x :: xs, y :: ys => if x != y then !x else lexlt xs ys
  | _, _ => false
theorem lexlt_iff : ∀ {p q : List Bool}, p.length = q.length → lexlt p q = decide (num p < num q)
  | [], [], _ => by simp [lexlt, num]
  | [], _ :: _, h => by simp at h
  | _ :: _, [], h => by simp at h
  | x :: p, y :: q, h => by
    have hl : p.length = q.length := by simpa using h
    have h1 := num_lt p
    have h2 := num_lt q
    have ih := lexlt_iff hl
    rw [lexlt, num_cons, num_cons, hl]
    rw [hl] at h1
    cases x <;> cases y
    · simp only [tb]; simp [ih]
    · have : num p < 1 * 2 ^ q.length + num q := by omega
      simp [tb]; omega
    · have : ¬ 1 * 2 ^ q.length + num p < num q := by omega
      simp [tb]; omega
    · simp only [tb]; simp [ih]
def bet (c : Nat) (p : List Bool) (c' : Nat) (p' : List Bool) : Bool := if c = c' then lexlt p p' else decide (c < c')
def wt (c : Nat) (p : List Bool) : Nat := c * 2 ^ p.length + num p
theorem bet_iff {c c' : Nat} {p p' : List Bool} (h : p.length = p'.length) : bet c p c' p' = decide (wt c p < wt c' p') := by
  unfold bet wt
  have h1 := num_lt p
  have h2 := num_lt p'
  rw [h] at h1 ⊢
  by_cases e : c = c'
  · subst e
    rw [if_pos rfl, lexlt_iff h]
    exact decide_eq_decide.2 (by omega)
  · rw [if_neg e]
    refine decide_eq_decide.2 ⟨fun hlt => ?_, fun hlt => ?_⟩
    · have : (c + 1) * 2 ^ p'.length ≤ c' * 2 ^ p'.length := Nat.mul_le_mul_right _ hlt
      rw [Nat.succ_mul] at this
      omega
    · rcases Nat.lt_or_ge c c' with h3 | h3
      · exact h3
      · have : (c' + 1) * 2 ^ p'.length ≤ c * 2 ^ p'.length := Nat.mul_le_mul_right _ (by omega)
        rw [Nat.succ_mul] at this
        omega
theorem wt_snoc (c d : Nat) (p : List Bool) (b : Bool) : wt (c + d) (p ++ [b]) = 2 * wt c p + (d * 2 ^ (p.length + 1) + tb b) := by
  unfold wt
  rw [num_snoc, List.length_append, List.length_cons, List.length_nil, Nat.zero_add, Nat.pow_succ, Nat.add_mul]
  have : c * (2 ^ p.length * 2) = 2 * (c * 2 ^ p.length) := by rw [← Nat.mul_assoc, Nat.mul_comm]
  omega
def pairD (L : List Bool) (k : Nat) (x y : Bool) : Nat := tb (x != L.getD (2 * k) false) + tb (y != L.getD (2 * k + 1) false)
def stC (L : List Bool) (k : Nat) (s0 s1 b : Bool) : Nat := pairD L k ((b != s0) != s1) (b != s1)
/-- a way of k bits to a state, and at how many places it is off -/
inductive PathC (L : List Bool) (n : Nat) : Nat → Bool → Bool → List Bool → Nat → Prop
  | nil : PathC L n 0 false false [] 0
  | snoc {k : Nat} {s0 s1 : Bool} {p : List Bool} {c : Nat} (b : Bool) : PathC L n k s0 s1 p c → (k < n ∨ b = false) → PathC L n (k + 1) b s0 (p ++ [b]) (c + stC L k s0 s1 b)
theorem PathC.len {L : List Bool} {n k : Nat} {s0 s1 : Bool} {p : List Bool} {c : Nat} (h : PathC L n k s0 s1 p c) : p.length = k := by
  induction h with
  | nil => rfl
  | snoc b _ _ ih => simp [ih]
abbrev SF := Bool → Bool → Option (List Bool × Nat)
/-- of each state the best way -/
def MapOK (L : List Bool) (n k : Nat) (F : SF) : Prop := ∀ s0 s1,
  (∀ p c, F s0 s1 = some (p, c) → PathC L n k s0 s1 p c ∧ ∀ p' c', PathC L n k s0 s1 p' c' → wt c p ≤ wt c' p') ∧ (F s0 s1 = none → ∀ p c, ¬ PathC L n k s0 s1 p c)
def sf0 : SF := fun s0 s1 => if s0 || s1 then none else some ([], 0)
theorem mapOK_start (L : List Bool) (n : Nat) : MapOK L n 0 sf0 := by
  intro s0 s1
  constructor
  · intro p c h
    unfold sf0 at h
    cases s0 <;> cases s1 <;> simp at h
    obtain ⟨rfl, rfl⟩ := h
    refine ⟨.nil, fun p' c' hp => ?_⟩
    cases hp
    exact Nat.le_refl _
  · intro h p c hp
    cases hp
    simp [sf0] at h
/-- the next states, as far as they were reckoned -/
def POK (L : List Bool) (k : Nat) (F : SF) (D : Bool → Bool → Bool → Prop) (G : SF) : Prop := ∀ t0 t1,
  (∀ q e, G t0 t1 = some (q, e) → (∃ s1 p c, D t1 s1 t0 ∧ F t1 s1 = some (p, c) ∧ q = p ++ [t0] ∧ e = c + stC L k t1 s1 t0) ∧
    ∀ s1 p c, D t1 s1 t0 → F t1 s1 = some (p, c) → wt e q ≤ wt (c + stC L k t1 s1 t0) (p ++ [t0])) ∧
  (G t0 t1 = none → ∀ s1 p c, D t1 s1 t0 → F t1 s1 ≠ some (p, c))
def sfN : SF := fun _ _ => none
def sfPut (G : SF) (t0 t1 : Bool) (v : List Bool × Nat) : SF := fun x y => if x = t0 ∧ y = t1 then some v else G x y
section
variable {L : List Bool} {n k : Nat} {F G : SF} {D D' : Bool → Bool → Bool → Prop} {s0 s1 b : Bool} {p : List Bool} {c : Nat}
theorem POK.start : POK L k F (fun _ _ _ => False) sfN := fun t0 t1 => ⟨fun q e h => by simp [sfN] at h, fun _ s1 p c h => h.elim⟩
theorem POK.congr (h : POK L k F D G) (hD : ∀ x y z, F x y ≠ none → (D' x y z ↔ D x y z)) : POK L k F D' G := by
  intro t0 t1
  obtain ⟨h1, h2⟩ := h t0 t1
  refine ⟨fun q e hg => ?_, fun hg s1 p c hd hf => ?_⟩
  · obtain ⟨⟨s1, p, c, hd, hf, hq⟩, h3⟩ := h1 q e hg
    exact ⟨⟨s1, p, c, (hD _ _ _ (by rw [hf]; simp)).2 hd, hf, hq⟩, fun s1 p c hd hf => h3 s1 p c ((hD _ _ _ (by rw [hf]; simp)).1 hd) hf⟩
  · exact h2 hg s1 p c ((hD _ _ _ (by rw [hf]; simp)).1 hd) hf
/-- a better one is laid -/
theorem POK.put (hM : MapOK L n k F) (h : POK L k F D G) (hf : F s0 s1 = some (p, c)) (hb : ∀ q0 e0, G b s0 = some (q0, e0) → bet (c + stC L k s0 s1 b) (p ++ [b]) e0 q0 = true) :
    POK L k F (fun x y z => D x y z ∨ (x = s0 ∧ y = s1 ∧ z = b)) (sfPut G b s0 (p ++ [b], c + stC L k s0 s1 b)) := by
  have hlen : ∀ {x y p c}, F x y = some (p, c) → p.length = k := fun h => ((hM _ _).1 _ _ h).1.len
  intro t0 t1
  obtain ⟨h1, h2⟩ := h t0 t1
  unfold sfPut
  by_cases e : t0 = b ∧ t1 = s0
  · obtain ⟨rfl, rfl⟩ := e
    rw [if_pos ⟨rfl, rfl⟩]
    refine ⟨fun q e hg => ?_, fun hg => by cases hg⟩
    injection hg with hg
    injection hg with e1 e2
    subst e1
    subst e2
    refine ⟨⟨s1, p, c, .inr ⟨rfl, rfl, rfl⟩, hf, rfl, rfl⟩, fun s1' p' c' hd hf' => ?_⟩
    rcases hd with hd | ⟨_, rfl, _⟩
    · cases hg0 : G t0 t1 with
      | none => exact absurd hf' (h2 hg0 s1' p' c' hd)
      | some v =>
        obtain ⟨q0, e0⟩ := v
        obtain ⟨⟨s1'', p'', c'', _, hf'', rfl, rfl⟩, h3⟩ := h1 q0 e0 hg0
        have h4 := h3 s1' p' c' hd hf'
        have h5 := hb _ _ hg0
        rw [bet_iff (by simp [hlen hf, hlen hf'']), decide_eq_true_eq] at h5
        omega
    · rw [hf] at hf'; injection hf' with hf'; injection hf' with e1 e2; subst e1; subst e2; exact Nat.le_refl _
  · rw [if_neg e]
    have hno : ∀ x, ¬ (t1 = s0 ∧ x = s1 ∧ t0 = b) := fun x hx => e ⟨hx.2.2, hx.1⟩
    refine ⟨fun q e hg => ?_, fun hg s1' p' c' hd => h2 hg s1' p' c' (hd.resolve_right (hno _))⟩
    obtain ⟨⟨s1', p', c', hd, hr⟩, h3⟩ := h1 q e hg
    exact ⟨⟨s1', p', c', .inl hd, hr⟩, fun s1' p' c' hd => h3 s1' p' c' (hd.resolve_right (hno _))⟩
/-- the one that is there stays -/
theorem POK.stay {q0 : List Bool} {e0 : Nat} (hM : MapOK L n k F) (h : POK L k F D G) (hf : F s0 s1 = some (p, c)) (hg0 : G b s0 = some (q0, e0)) (hb : bet (c + stC L k s0 s1 b) (p ++ [b]) e0 q0 = false) :
    POK L k F (fun x y z => D x y z ∨ (x = s0 ∧ y = s1 ∧ z = b)) G := by
  have hlen : ∀ {x y p c}, F x y = some (p, c) → p.length = k := fun h => ((hM _ _).1 _ _ h).1.len
  intro t0 t1
  obtain ⟨h1, h2⟩ := h t0 t1
  by_cases e : t0 = b ∧ t1 = s0
  · obtain ⟨rfl, rfl⟩ := e
    refine ⟨fun q e hg => ?_, fun hg => by rw [hg0] at hg; cases hg⟩
    rw [hg0] at hg
    injection hg with hg
    injection hg with e1 e2
    subst e1
    subst e2
    obtain ⟨⟨s1'', p'', c'', hd'', hf'', hq, he⟩, h3⟩ := h1 q0 e0 hg0
    refine ⟨⟨s1'', p'', c'', .inl hd'', hf'', hq, he⟩, fun s1' p' c' hd hf' => ?_⟩
    rcases hd with hd | ⟨_, rfl, _⟩
    · exact h3 s1' p' c' hd hf'
    · rw [hf] at hf'; injection hf' with hf'; injection hf' with e1 e2; subst e1; subst e2
      rw [bet_iff (by rw [hq]; simp [hlen hf, hlen hf'']), decide_eq_false_iff_not] at hb
      omega
  · have hno : ∀ x, ¬ (t1 = s0 ∧ x = s1 ∧ t0 = b) := fun x hx => e ⟨hx.2.2, hx.1⟩
    refine ⟨fun q e hg => ?_, fun hg s1' p' c' hd => h2 hg s1' p' c' (hd.resolve_right (hno _))⟩
    obtain ⟨⟨s1', p', c', hd, hr⟩, h3⟩ := h1 q e hg
    exact ⟨⟨s1', p', c', .inl hd, hr⟩, fun s1' p' c' hd => h3 s1' p' c' (hd.resolve_right (hno _))⟩
theorem POK.finish (hM : MapOK L n k F) (h : POK L k F D G) (hD : ∀ x y z, F x y ≠ none → (D x y z ↔ (k < n ∨ z = false))) : MapOK L n (k + 1) G := by
  have hlen : ∀ {x y p c}, F x y = some (p, c) → p.length = k := fun h => ((hM _ _).1 _ _ h).1.len
  intro t0 t1
  obtain ⟨h1, h2⟩ := h t0 t1
  refine ⟨fun q e hg => ?_, fun hg q e hp => ?_⟩
  · obtain ⟨⟨s1, p, c, hd, hf, rfl, rfl⟩, h3⟩ := h1 q e hg
    obtain ⟨hp, hmin⟩ := (hM t1 s1).1 p c hf
    refine ⟨.snoc t0 hp ((hD _ _ _ (by rw [hf]; simp)).1 hd), fun q' e' hq' => ?_⟩
    cases hq' with
    | snoc b hp' hb =>
      rename_i s1' p' c'
      cases hf' : F t1 s1' with
      | none => exact absurd hp' ((hM t1 s1').2 hf' _ _)
      | some v =>
        obtain ⟨p2, c2⟩ := v
        have h4 := h3 s1' p2 c2 ((hD _ _ _ (by rw [hf']; simp)).2 hb) hf'
        have h5 := ((hM t1 s1').1 p2 c2 hf').2 p' c' hp'
        have l1 := hlen hf'
        have l2 := hp'.len
        rw [wt_snoc c2, l1] at h4
        rw [wt_snoc c', l2]
        omega
  · cases hp with
    | snoc b hp' hb =>
      rename_i s1' p' c'
      cases hf' : F t1 s1' with
      | none => exact absurd hp' ((hM t1 s1').2 hf' _ _)
      | some v =>
        obtain ⟨p2, c2⟩ := v
        exact h2 hg s1' p2 c2 ((hD _ _ _ (by rw [hf']; simp)).2 hb) hf'
end
/-- what a list costs, place by place -/
def cs (L P : List Bool) : Nat → Nat
  | 0 => 0
  | k + 1 => cs L P k + pairD L k (tr1 P k) (tr2 P k)
theorem atB_app {p q : List Bool} {i : Int} (h : i < p.length) : atB (p ++ q) i = atB p i := by
  unfold atB
  by_cases h0 : 0 ≤ i
  · rw [if_pos h0, if_pos h0, List.getD_eq_getElem?_getD, List.getD_eq_getElem?_getD, List.getElem?_append_left (by omega)]
  · rw [if_neg h0, if_neg h0]
theorem atB_pad' (d : List Bool) (i : Int) : atB (d ++ [false, false]) i = atB d i := by
  by_cases h : i < d.length
  · exact atB_app h
  · unfold atB
    by_cases h0 : 0 ≤ i
    · rw [if_pos h0, if_pos h0, List.getD_eq_getElem?_getD, List.getD_eq_getElem?_getD, List.getElem?_append_right (by omega), List.getElem?_eq_none (by omega : d.length ≤ i.toNat)]
      rcases (by omega : i.toNat - d.length = 0 ∨ i.toNat - d.length = 1 ∨ 2 ≤ i.toNat - d.length) with h2 | h2 | h2
      · rw [h2]; rfl
      · rw [h2]; rfl
      · rw [List.getElem?_eq_none (by simpa using h2)]
    · rw [if_neg h0, if_neg h0]
theorem cs_congr {L P Q : List Bool} : ∀ k : Nat, (∀ i : Int, i < (k : Int) → atB P i = atB Q i) → cs L P k = cs L Q k
  | 0, _ => rfl
  | k + 1, h => by
    rw [cs, cs, cs_congr k (fun i hi => h i (by omega))]
    unfold tr1 tr2
    rw [h k (by omega), h (k - 1) (by omega), h (k - 2) (by omega)]
theorem PathC.cs {L : List Bool} {n k : Nat} {s0 s1 : Bool} {p : List Bool} {c : Nat} (h : PathC L n k s0 s1 p c) : s0 = atB p ((k : Int) - 1) ∧ s1 = atB p ((k : Int) - 2) ∧ c = cs L p k := by
  induction h with
  | nil => exact ⟨rfl, rfl, rfl⟩
  | snoc b hp hb ih =>
    rename_i k s0 s1 p c
    obtain ⟨e0, e1, e2⟩ := ih
    have hl := hp.len
    have a0 : atB (p ++ [b]) (k : Int) = b := by
      unfold atB
      rw [if_pos (by omega), List.getD_eq_getElem?_getD, Int.toNat_natCast, List.getElem?_append_right (by omega), hl, Nat.sub_self]; rfl
    have a1 : atB (p ++ [b]) ((k : Int) - 1) = s0 := by rw [atB_app (by omega)]; exact e0.symm
    have a2 : atB (p ++ [b]) ((k : Int) - 2) = s1 := by rw [atB_app (by omega)]; exact e1.symm
    refine ⟨?_, ?_, ?_⟩
    · rw [show ((k + 1 : Nat) : Int) - 1 = (k : Int) by omega, a0]
    · rw [show ((k + 1 : Nat) : Int) - 2 = (k : Int) - 1 by omega, a1]
    · rw [Go.Proofs.Ytpbffbhebdcpbaa.cs, cs_congr (Q := p) k (fun i hi => atB_app (by omega)), ← e2]
      unfold tr1 tr2
      rw [a0, a1, a2]; rfl
theorem path_of {L P : List Bool} {n : Nat} (hP : P.length = n + 2) (h0 : ∀ i, n ≤ i → P.getD i false = false) : ∀ k, k ≤ n + 2 → PathC L n k (atB P ((k : Int) - 1)) (atB P ((k : Int) - 2)) (P.take k) (cs L P k)
  | 0, _ => .nil
  | k + 1, hk => by
    have ih := path_of (L := L) hP h0 k (by omega)
    have hx : P[k]? = some P[k] := List.getElem?_eq_getElem (by omega)
    have ha : atB P (k : Int) = P[k] := by unfold atB; rw [if_pos (by omega), Int.toNat_natCast, List.getD_eq_getElem?_getD, hx]; rfl
    have := PathC.snoc (atB P (k : Int)) ih (by
      rcases Nat.lt_or_ge k n with h1 | h1
      · exact .inl h1
      · right
        have := h0 k h1
        unfold atB; rw [if_pos (by omega), Int.toNat_natCast]; exact this)
    rw [show ((k + 1 : Nat) : Int) - 1 = (k : Int) by omega, show ((k + 1 : Nat) : Int) - 2 = (k : Int) - 1 by omega, take_next hx, ← ha]
    exact this
theorem difL_snoc {a b : List Bool} {x y : Bool} (h : a.length = b.length) : difL (a ++ [x]) (b ++ [y]) = difL a b + tb (x != y) := by
  unfold difL
  rw [xorL_append h, onesL_append]
  congr 1
theorem cs_dif {L d : List Bool} : ∀ k, 2 * k ≤ L.length → cs L d k = difL (trL d k) (L.take (2 * k))
  | 0, _ => by simp [cs, trL, difL, xorL, onesL]
  | k + 1, h => by
    have h1 : L[2 * k]? = some L[2 * k] := List.getElem?_eq_getElem (by omega)
    have h2 : L[2 * k + 1]? = some L[2 * k + 1] := List.getElem?_eq_getElem (by omega)
    rw [cs, cs_dif k (by omega), show 2 * (k + 1) = 2 * k + 1 + 1 by omega, take_next h2, take_next h1, trL]
    rw [show trL d k ++ [tr1 d k, tr2 d k] = (trL d k ++ [tr1 d k]) ++ [tr2 d k] by simp]
    rw [difL_snoc (by rw [List.length_append, List.length_append, trL_len, List.length_take]; simp; omega), difL_snoc (by rw [trL_len, List.length_take]; omega)]
    unfold pairD
    rw [List.getD_eq_getElem?_getD, List.getD_eq_getElem?_getD, h1, h2]
    simp only [Option.getD_some]
    omega
/-- the first of the nearest data -/
def BestV (L : List Bool) (n : Nat) (d : List Bool) (c : Nat) : Prop := d.length = n ∧ c = difL (trL d (n + 2)) L ∧ ∀ d', d'.length = n → c * 2 ^ n + num d ≤ difL (trL d' (n + 2)) L * 2 ^ n + num d'
theorem BestV.uniq {L d d' : List Bool} {n c c' : Nat} (h : BestV L n d c) (h' : BestV L n d' c') : d = d' ∧ c = c' := by
  obtain ⟨l1, e1, m1⟩ := h
  obtain ⟨l2, e2, m2⟩ := h'
  have a := m1 d' l2
  have b := m2 d l1
  rw [← e2] at a
  rw [← e1] at b
  have n1 := num_lt d
  have n2 := num_lt d'
  rw [l1] at n1
  rw [l2] at n2
  have hc : c = c' := by
    rcases Nat.lt_trichotomy c c' with h3 | h3 | h3
    · have : (c + 1) * 2 ^ n ≤ c' * 2 ^ n := Nat.mul_le_mul_right _ h3
      rw [Nat.succ_mul] at this; omega
    · exact h3
    · have : (c' + 1) * 2 ^ n ≤ c * 2 ^ n := Nat.mul_le_mul_right _ h3
      rw [Nat.succ_mul] at this; omega
  subst hc
  exact ⟨num_inj (by rw [l1, l2]) (by omega), rfl⟩
theorem pad_getD {d : List Bool} {n i : Nat} (h : d.length = n) (hi : n ≤ i) : (d ++ [false, false]).getD i false = false := by
  rw [List.getD_eq_getElem?_getD, List.getElem?_append_right (by omega)]
  rcases (by omega : i - d.length = 0 ∨ i - d.length = 1 ∨ 2 ≤ i - d.length) with h2 | h2 | h2
  · rw [h2]; rfl
  · rw [h2]; rfl
  · rw [List.getElem?_eq_none (by simpa using h2)]; rfl
theorem path_pad {L d : List Bool} {n : Nat} (hd : d.length = n) (hL : L.length = 2 * (n + 2)) : PathC L n (n + 2) false false (d ++ [false, false]) (difL (trL d (n + 2)) L) := by
  have h := path_of (L := L) (P := d ++ [false, false]) (n := n) (by simp [hd]) (fun i hi => pad_getD hd hi) (n + 2) (Nat.le_refl _)
  rw [List.take_of_length_le (by simp [hd]), cs_congr (Q := d) (n + 2) (fun i _ => atB_pad' d i), cs_dif (n + 2) (by omega), List.take_of_length_le (by omega), atB_pad', atB_pad'] at h
  have z : ∀ i : Int, (n : Int) ≤ i → atB d i = false := fun i hi => by
    unfold atB
    split
    · rw [List.getD_eq_getElem?_getD, List.getElem?_eq_none (by omega)]; rfl
    · rfl
  rwa [z _ (by omega), z _ (by omega)] at h
theorem map_best {L : List Bool} {n : Nat} {F : SF} (hL : L.length = 2 * (n + 2)) (h : MapOK L n (n + 2) F) : ∃ p c, F false false = some (p, c) ∧ p.length = n + 2 ∧ BestV L n (p.take n) c := by
  cases hf : F false false with
  | none => exact absurd (path_pad (d := List.replicate n false) (by simp) hL) ((h false false).2 hf _ _)
  | some v =>
    obtain ⟨p, c⟩ := v
    obtain ⟨hp, hmin⟩ := (h false false).1 p c hf
    have hl := hp.len
    obtain ⟨d, rfl⟩ : ∃ d, p = d ++ [false, false] := by
      cases hp with
      | snoc b h1 hb =>
        cases h1 with
        | snoc b1 h2 hb1 =>
          rename_i s p2 c2
          exact ⟨p2, by simp⟩
    have hd : d.length = n := by simpa using hl
    have ht : (d ++ [false, false]).take n = d := by rw [List.take_append_of_le_length (by omega), List.take_of_length_le (by omega)]
    have hc := hp.cs.2.2
    rw [cs_congr (Q := d) (n + 2) (fun i _ => atB_pad' d i), cs_dif (n + 2) (by omega), List.take_of_length_le (by omega)] at hc
    refine ⟨_, c, rfl, hl, by rw [ht]; exact hd, by rw [ht]; exact hc, fun d' hd' => ?_⟩
    rw [ht]
    have := hmin _ _ (path_pad hd' hL)
    have hw : ∀ c d, d.length = n → wt c (d ++ [false, false]) = 4 * (c * 2 ^ n + num d) := fun c d hd => by
      unfold wt
      have e1 : num (d ++ [false, false]) = 4 * num d := by
        rw [show d ++ [false, false] = (d ++ [false]) ++ [false] by simp, num_snoc, num_snoc]; simp [tb]; omega
      have e2 : (d ++ [false, false]).length = n + 1 + 1 := by simp [hd]
      rw [e1, e2, Nat.pow_succ, Nat.pow_succ]
      have : c * (2 ^ n * 2 * 2) = 4 * (c * 2 ^ n) := by rw [Nat.mul_assoc (2 ^ n), ← Nat.mul_assoc, Nat.mul_comm]
      omega
    rw [hw _ _ hd, hw _ _ hd'] at this
    omega
/-- all data, by their numbers -/
theorem bitB_lt {x n : Nat} (h : x < 2 ^ n) : bitB x n = false := by unfold bitB; rw [Nat.div_eq_of_lt h]; rfl
theorem num_digits : ∀ (n x : Nat), x < 2 ^ n → num (digitsL x n) = x
  | 0, x, h => by simp at h; subst h; rfl
  | n + 1, x, h => by
    have e : digitsL x (n + 1) = digitsL (x / 2) n ++ [bitB x 0] := by
      unfold digitsL
      rw [List.range_succ, List.map_append]
      congr 1
      · refine List.map_congr_left fun j hj => ?_
        have hj := List.mem_range.1 hj
        unfold bitB
        rw [show n + 1 - 1 - j = (n - 1 - j) + 1 by omega, Nat.pow_succ, Nat.mul_comm, Nat.div_div_eq_div_mul]
      · simp
    rw [e, num_snoc, num_digits n (x / 2) (by rw [Nat.pow_succ] at h; omega)]
    have : tb (bitB x 0) = x % 2 := by
      unfold bitB tb
      rw [Nat.pow_zero, Nat.div_one]
      rcases Nat.mod_two_eq_zero_or_one x with h2 | h2 <;> rw [h2] <;> rfl
    omega
theorem best_ref {L : List Bool} {n x : Nat} (hx : x < 2 ^ n) (hmin : ∀ y, y < 2 ^ n → difL (trL (digitsL x n) (n + 2)) L ≤ difL (trL (digitsL y n) (n + 2)) L ∧ (y < x → difL (trL (digitsL x n) (n + 2)) L < difL (trL (digitsL y n) (n + 2)) L)) :
    BestV L n (digitsL x n) (difL (trL (digitsL x n) (n + 2)) L) := by
  refine ⟨digitsL_len x n, rfl, fun d' hd' => ?_⟩
  have hy : num d' < 2 ^ n := by rw [← hd']; exact num_lt d'
  have hd : d' = digitsL (num d') n := num_inj (by rw [hd', digitsL_len]) (num_digits n _ hy).symm
  obtain ⟨h1, h2⟩ := hmin (num d') hy
  rw [num_digits n x hx, ← hd] at *
  rcases Nat.lt_or_ge (num d') x with h3 | h3
  · have := h2 h3
    have h4 : (difL (trL (digitsL x n) (n + 2)) L + 1) * 2 ^ n ≤ difL (trL d' (n + 2)) L * 2 ^ n := Nat.mul_le_mul_right _ this
    rw [Nat.succ_mul] at h4
    omega
  · have h4 : difL (trL (digitsL x n) (n + 2)) L * 2 ^ n ≤ difL (trL d' (n + 2)) L * 2 ^ n := Nat.mul_le_mul_right _ h1
    omega
end Go.Proofs.Ytpbffbhebdcpbaa

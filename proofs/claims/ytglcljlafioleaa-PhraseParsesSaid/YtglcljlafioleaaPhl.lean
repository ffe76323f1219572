/-
  Phrases of a text: what was read before, and one more. Plain words.
-/
import Derived.Test.YtglcljlafioleaaBase
set_option linter.unusedVariables false
namespace Go.Proofs.Ytglcljlafioleaa

def IsSz (K : List (List Nat)) (t : List Nat) (k : Nat) : Prop := 1 ≤ k ∧ k ≤ t.length ∧ (∀ j, 1 ≤ j → j < k → t.take j ∈ K) ∧ (k < t.length → t.take k ∉ K)
theorem IsSz.uniq {K : List (List Nat)} {t : List Nat} {k k' : Nat} (h : IsSz K t k) (h' : IsSz K t k') : k = k' := by
  obtain ⟨a1, a2, a3, a4⟩ := h
  obtain ⟨b1, b2, b3, b4⟩ := h'
  rcases Nat.lt_trichotomy k k' with h | h | h
  · exact absurd (b3 k a1 h) (a4 (by omega))
  · exact h
  · exact absurd (a3 k' b1 h) (b4 (by omega))
/-- x stands first at p -/
def PlaceIs (K : List (List Nat)) (x : List Nat) (p : Nat) : Prop := K[p]? = some x ∧ ∀ j, j < p → K[j]? ≠ some x
theorem PlaceIs.uniq {K : List (List Nat)} {x : List Nat} {p p' : Nat} (h : PlaceIs K x p) (h' : PlaceIs K x p') : p = p' := by
  rcases Nat.lt_trichotomy p p' with h1 | h1 | h1
  · exact absurd h.1 (h'.2 p h1)
  · exact h1
  · exact absurd h'.1 (h.2 p' h1)
theorem place_of_mem {x : List Nat} : ∀ {K : List (List Nat)}, x ∈ K → ∃ p, PlaceIs K x p
  | [], h => by cases h
  | y :: K, h => by
    by_cases e : y = x
    · exact ⟨0, by rw [e]; rfl, fun j hj => by omega⟩
    · rcases List.mem_cons.1 h with h1 | h1
      · exact absurd h1.symm e
      · obtain ⟨p, h2, h3⟩ := place_of_mem h1
        refine ⟨p + 1, by simpa using h2, fun j hj => ?_⟩
        rcases j with _ | j
        · simp; exact e
        · simpa using h3 j (by omega)
theorem PlaceIs.mem {K : List (List Nat)} {x : List Nat} {p : Nat} (h : PlaceIs K x p) : x ∈ K := List.mem_of_getElem? h.1
theorem PlaceIs.lt {K : List (List Nat)} {x : List Nat} {p : Nat} (h : PlaceIs K x p) : p < K.length := (List.getElem?_eq_some_iff.1 h.1).1
theorem place_nodup {K : List (List Nat)} {x : List Nat} {p : Nat} (hn : K.Nodup) (h : K[p]? = some x) : PlaceIs K x p := by
  refine ⟨h, fun j hj e => ?_⟩
  obtain ⟨h1, h2⟩ := List.getElem?_eq_some_iff.1 h
  obtain ⟨h3, h4⟩ := List.getElem?_eq_some_iff.1 e
  have := (List.getElem_inj hn).1 (h4.trans h2.symm)
  omega
/-- the phrases of t, where K is known -/
inductive PhR : List (List Nat) → List Nat → List (Nat × Nat) → Prop
  | nil (K : List (List Nat)) : PhR K [] []
  | cons (K : List (List Nat)) (t : List Nat) (k p c : Nat) (out : List (Nat × Nat)) (hk : IsSz K t k) (hp : PlaceIs K (t.take (k - 1)) p) (hc : t[k - 1]? = some c) (hr : PhR (K ++ [t.take k]) (t.drop k) out) : PhR K t ((p, c) :: out)
theorem PhR.inv {K : List (List Nat)} {t : List Nat} {b : List (Nat × Nat)} (h : PhR K t b) : (t = [] ∧ b = []) ∨ ∃ k p c out, IsSz K t k ∧ PlaceIs K (t.take (k - 1)) p ∧ t[k - 1]? = some c ∧ PhR (K ++ [t.take k]) (t.drop k) out ∧ b = (p, c) :: out := by
  cases h with
  | nil => exact .inl ⟨rfl, rfl⟩
  | cons => exact .inr ⟨_, _, _, _, by assumption, by assumption, by assumption, by assumption, rfl⟩
theorem PhR.uniq {K : List (List Nat)} {t : List Nat} {a b : List (Nat × Nat)} (h : PhR K t a) (h' : PhR K t b) : a = b := by
  induction h generalizing b with
  | nil K =>
    rcases h'.inv with ⟨_, e⟩ | ⟨k, p, c, out, hk, _⟩
    · exact e.symm
    · have h1 := hk.1
      have h2 := hk.2.1
      simp at h2
      omega
  | cons K t k p c out hk hp hc hr ih =>
    rcases h'.inv with ⟨e, _⟩ | ⟨k2, p2, c2, out2, hk2, hp2, hc2, hr2, e⟩
    · subst e
      have h1 := hk.1
      have h2 := hk.2.1
      simp at h2
      omega
    · obtain rfl := hk.uniq hk2
      obtain rfl := hp.uniq hp2
      rw [hc] at hc2
      injection hc2 with hc2
      subst hc2
      rw [ih hr2, e]
theorem take_one_more {t : List Nat} {k c : Nat} (h : t[k]? = some c) : t.take (k + 1) = t.take k ++ [c] := by
  rw [List.take_add_one, h]; rfl
/-- what phrase.Parse keeps -/
structure PhSt (text : List Nat) (i : Nat) (f : Nat → Nat → Option Nat) (pt : Nat) (out : List (Nat × Nat)) (K : List (List Nat)) (s : Nat) : Prop where
  hs : s ≤ i
  hi : i < text.length
  nd : K.Nodup
  len : K.length = out.length + 1
  olen : out.length ≤ i
  zero : K[0]? = some []
  pre : ∀ x c, x ++ [c] ∈ K → x ∈ K
  cur : K[pt]? = some ((text.drop s).take (i - s))
  mem : ∀ j, 1 ≤ j → j ≤ i - s → (text.drop s).take j ∈ K
  fl : ∀ p c q, f p c = some q ↔ ∃ x, K[p]? = some x ∧ K[q]? = some (x ++ [c])
  go : ∀ R, PhR K (text.drop s) R → PhR [[]] text (out ++ R)
section
variable {text : List Nat} {i pt s c : Nat} {f : Nat → Nat → Option Nat} {out : List (Nat × Nat)} {K : List (List Nat)}
theorem PhSt.start (h : 0 < text.length) : PhSt text 0 (fun _ _ => none) 0 [] [[]] 0 :=
  ⟨Nat.le_refl _, h, by simp, rfl, Nat.le_refl _, rfl, fun x c hx => by simp at hx, by simp, fun j h1 h2 => by omega, fun p c q => by
    constructor
    · intro h; cases h
    · rintro ⟨x, h1, h2⟩
      rcases q with _ | q
      · simp at h2
      · simp at h2, fun R hR => by simpa using hR⟩
theorem PhSt.ptLt (h : PhSt text i f pt out K s) : pt ≤ i := by
  have := (List.getElem?_eq_some_iff.1 h.cur).1
  have := h.len
  have := h.olen
  omega
theorem PhSt.next (h : PhSt text i f pt out K s) (hc : text[i]? = some c) : (text.drop s).take (i + 1 - s) = (text.drop s).take (i - s) ++ [c] := by
  have h1 := h.hs
  have h2 : (text.drop s)[i - s]? = some c := by rw [List.getElem?_drop, show s + (i - s) = i by omega]; exact hc
  rw [show i + 1 - s = (i - s) + 1 by omega, take_one_more h2]
theorem PhSt.there (h : PhSt text i f pt out K s) (hc : text[i]? = some c) {q : Nat} (hq : f pt c = some q) (h2 : i + 1 < text.length) : PhSt text (i + 1) f q out K s := by
  have h1 := h.hs
  obtain ⟨x, hx, hx2⟩ := (h.fl pt c q).1 hq
  rw [h.cur] at hx
  injection hx with hx
  rw [← hx, ← h.next hc] at hx2
  refine ⟨by omega, h2, h.nd, h.len, by have := h.olen; omega, h.zero, h.pre, hx2, fun j a b => ?_, h.fl, h.go⟩
  rcases Nat.lt_or_ge j (i + 1 - s) with h3 | h3
  · exact h.mem j a (by omega)
  · rw [show j = i + 1 - s by omega]
    exact List.mem_of_getElem? hx2
theorem PhSt.sz (h : PhSt text i f pt out K s) (hc : text[i]? = some c) (hend : i + 1 = text.length ∨ (text.drop s).take (i + 1 - s) ∉ K) {R : List (Nat × Nat)} (hR : PhR (K ++ [(text.drop s).take (i + 1 - s)]) (text.drop (i + 1)) R) : PhR [[]] text (out ++ [(pt, c)] ++ R) := by
  have h1 := h.hs
  have h2 := h.hi
  rw [List.append_assoc]
  refine h.go _ (PhR.cons K (text.drop s) (i + 1 - s) pt c R ⟨by omega, by rw [List.length_drop]; omega, fun j a b => h.mem j a (by omega), fun h3 => ?_⟩ ?_ ?_ ?_)
  · rw [List.length_drop] at h3
    rcases hend with h4 | h4
    · omega
    · exact h4
  · rw [show i + 1 - s - 1 = i - s by omega]
    exact place_nodup h.nd h.cur
  · rw [List.getElem?_drop, show s + (i + 1 - s - 1) = i by omega]; exact hc
  · rw [List.drop_drop, show s + (i + 1 - s) = i + 1 by omega]
    exact hR
theorem PhSt.last (h : PhSt text i f pt out K s) (hc : text[i]? = some c) (hend : i + 1 = text.length) : PhR [[]] text (out ++ [(pt, c)]) := by
  have := h.sz hc (.inl hend) (R := []) (by rw [hend, List.drop_length]; exact PhR.nil _)
  rwa [List.append_nil] at this
theorem PhSt.notIn (h : PhSt text i f pt out K s) (hc : text[i]? = some c) (hq : f pt c = none) : (text.drop s).take (i + 1 - s) ∉ K := by
  intro hm
  rw [h.next hc] at hm
  obtain ⟨q, hq2⟩ := List.getElem?_of_mem hm
  have := (h.fl pt c q).2 ⟨_, h.cur, hq2⟩
  rw [hq] at this
  cases this
theorem PhSt.fresh (h : PhSt text i f pt out K s) (hc : text[i]? = some c) (hq : f pt c = none) (h2 : i + 1 < text.length) :
    PhSt text (i + 1) (fun p d => if p = pt ∧ d = c then some (out.length + 1) else f p d) 0 (out ++ [(pt, c)]) (K ++ [(text.drop s).take (i + 1 - s)]) (i + 1) := by
  have hni := h.notIn hc hq
  have hnx := h.next hc
  have hcur := h.cur
  have hlen := h.len
  have hol := h.olen
  have hptl := (List.getElem?_eq_some_iff.1 hcur).1
  have hgo := fun R => h.sz hc (.inr hni) (R := R)
  generalize hN : (text.drop s).take (i + 1 - s) = N at *
  generalize (text.drop s).take (i - s) = C at *
  have hK : ∀ (q : Nat) (x : List Nat), (K ++ [N])[q]? = some x ↔ K[q]? = some x ∨ (q = K.length ∧ x = N) := by
    intro q x
    rcases Nat.lt_trichotomy q K.length with h3 | h3 | h3
    · rw [List.getElem?_append_left h3]
      exact ⟨fun h4 => .inl h4, fun h4 => h4.elim (fun h5 => h5) fun h5 => (by omega)⟩
    · subst h3
      rw [List.getElem?_append_right (Nat.le_refl _)]
      simp
      exact ⟨fun h4 => h4.symm, fun h4 => h4.symm⟩
    · rw [List.getElem?_eq_none (by simp; omega), List.getElem?_eq_none (by omega)]
      exact ⟨fun h4 => (by cases h4), fun h4 => h4.elim (fun h5 => (by cases h5)) fun h5 => (by omega)⟩
  refine ⟨Nat.le_refl _, h2, ?_, by simp [hlen], by simp; omega, by rw [hK]; exact .inl h.zero, ?_, by rw [hK]; left; simpa using h.zero, fun j a b => by omega, ?_, hgo⟩
  · exact List.nodup_append.2 ⟨h.nd, by simp, fun a ha b hb e => by rw [List.mem_singleton] at hb; subst hb; subst e; exact hni ha⟩
  · intro x d hx
    rcases List.mem_append.1 hx with h3 | h3
    · exact List.mem_append_left _ (h.pre x d h3)
    · rw [List.mem_singleton, hnx] at h3
      obtain ⟨h4, _⟩ := List.append_inj' h3 rfl
      rw [h4]
      exact List.mem_append_left _ (List.mem_of_getElem? hcur)
  · intro p d q
    have hCK : C ∈ K := List.mem_of_getElem? hcur
    constructor
    · intro h3
      by_cases e : p = pt ∧ d = c
      · rw [if_pos e] at h3
        obtain ⟨rfl, rfl⟩ := e
        injection h3 with h3
        refine ⟨C, (hK _ _).2 (.inl hcur), (hK _ _).2 (.inr ⟨by omega, hnx.symm⟩)⟩
      · rw [if_neg e] at h3
        obtain ⟨x, h4, h5⟩ := (h.fl p d q).1 h3
        exact ⟨x, (hK _ _).2 (.inl h4), (hK _ _).2 (.inl h5)⟩
    · rintro ⟨x, h4, h5⟩
      rcases (hK _ _).1 h4 with h4 | ⟨h4, h6⟩
      · rcases (hK _ _).1 h5 with h5 | ⟨h5, h7⟩
        · have h8 := (h.fl p d q).2 ⟨x, h4, h5⟩
          by_cases e : p = pt ∧ d = c
          · obtain ⟨rfl, rfl⟩ := e
            rw [hq] at h8
            cases h8
          · rw [if_neg e]; exact h8
        · rw [hnx] at h7
          obtain ⟨h8, h9⟩ := List.append_inj' h7 rfl
          injection h9 with h9
          subst h8
          have e : p = pt := (place_nodup h.nd h4).uniq (place_nodup h.nd hcur)
          rw [if_pos ⟨e, h9⟩, h5, hlen]
      · rcases (hK _ _).1 h5 with h5a | ⟨h5a, h7⟩
        · exfalso
          have h8 := h.pre _ _ (List.mem_of_getElem? h5a)
          rw [h6] at h8
          exact hni h8
        · exfalso
          subst h6
          have := congrArg List.length h7
          simp at this
end
end Go.Proofs.Ytglcljlafioleaa

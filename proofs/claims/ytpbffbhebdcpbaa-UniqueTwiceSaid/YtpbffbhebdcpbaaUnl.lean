/-
  Texts that are alike: what one text may be ahead of another one; plain words and laws.
-/
import Derived.Test.YtpbffbhebdcpbaaPreft
import Derived.Test.YtpbffbhebdcpbaaPrefw
set_option linter.unusedVariables false
namespace Go.Proofs.Ytpbffbhebdcpbaa
open Go.RowKit

theorem begB_true {a b : List Bool} (h : begB a b = true) : b = a ++ b.drop a.length := by
  unfold begB at h
  rw [Bool.and_eq_true, decide_eq_true_eq, decide_eq_true_eq] at h
  calc b = b.take a.length ++ b.drop a.length := (List.take_append_drop _ _).symm
    _ = a ++ b.drop a.length := by rw [← h.2]
/-- what is left, once a word is set behind the text that is behind -/
def nx (w r : List Bool) : Option (List Bool) := if begB w r = true then some (r.drop w.length) else if begB r w = true then some (w.drop r.length) else none
/-- what one text may be ahead of another one that begins with another word -/
inductive UR (C : List (List Bool)) : List Bool → Prop
  | start {i j : Nat} {a b : List Bool} : C[i]? = some a → C[j]? = some b → i ≠ j → begB b a = true → UR C (a.drop b.length)
  | more {r w s : List Bool} : UR C r → w ∈ C → nx w r = some s → UR C s
def Unamb (C : List (List Bool)) : Prop := [] ∉ C ∧ ¬ UR C []
open Classical in
noncomputable def uniB (C : List (List Bool)) : Bool := decide (Unamb C)
theorem uniB_true {C : List (List Bool)} (h : Unamb C) : uniB C = true := by simp [uniB, h]
theorem uniB_false {C : List (List Bool)} (h : ¬ Unamb C) : uniB C = false := by simp [uniB, h]

/-- the ends of the words -/
def suf (C : List (List Bool)) : List (List Bool) := C.flatMap fun w => (List.range 9).map fun k => w.drop k
theorem suf_len (C : List (List Bool)) : (suf C).length = C.length * 9 := by
  induction C with
  | nil => rfl
  | cons w C ih =>
    have : suf (w :: C) = ((List.range 9).map fun k => w.drop k) ++ suf C := rfl
    rw [this, List.length_append, ih]; simp; omega
theorem mem_suf {C : List (List Bool)} {r : List Bool} : r ∈ suf C ↔ ∃ w ∈ C, ∃ k, k < 9 ∧ r = w.drop k := by
  unfold suf
  simp only [List.mem_flatMap, List.mem_map, List.mem_range]
  exact ⟨fun ⟨w, hw, k, hk, e⟩ => ⟨w, hw, k, hk, e.symm⟩, fun ⟨w, hw, k, hk, e⟩ => ⟨w, hw, k, hk, e.symm⟩⟩
theorem UR.suf {C : List (List Bool)} (h8 : ∀ w ∈ C, w.length ≤ 8) {r : List Bool} (h : UR C r) : r ∈ suf C := by
  induction h with
  | start hi hj hne hb =>
    rename_i i j a b
    exact mem_suf.2 ⟨a, mem_at hi, b.length, by have := h8 b (mem_at hj); omega, rfl⟩
  | more hr hw hn ih =>
    rename_i r w s
    obtain ⟨v, hv, k, hk, rfl⟩ := mem_suf.1 ih
    unfold nx at hn
    split at hn
    · rename_i h1
      injection hn with hn
      have h2 := h8 v hv
      have h3 : w.length ≤ v.length - k := by
        have := congrArg List.length (begB_true h1)
        simp only [List.length_append, List.length_drop] at this; omega
      exact mem_suf.2 ⟨v, hv, k + w.length, by omega, by rw [← hn, List.drop_drop]⟩
    · split at hn
      · injection hn with hn
        exact mem_suf.2 ⟨w, hw, (v.drop k).length, by have := h8 v hv; simp; omega, hn.symm⟩
      · cases hn
theorem filt_le {α : Type} (p q : α → Bool) (himp : ∀ x, q x = true → p x = true) : ∀ l : List α, (l.filter q).length ≤ (l.filter p).length
  | [] => by simp
  | x :: l => by
    have ih := filt_le p q himp l
    rw [List.filter_cons, List.filter_cons]
    by_cases hq : q x = true
    · rw [if_pos hq, if_pos (himp x hq)]; simpa using ih
    · rw [if_neg hq]
      split
      · simp; omega
      · exact ih
theorem filt_lt {α : Type} (p q : α → Bool) (himp : ∀ x, q x = true → p x = true) {y : α} (hp : p y = true) (hq : q y = false) : ∀ l : List α, y ∈ l → (l.filter q).length < (l.filter p).length
  | [], h => by simp at h
  | x :: l, h => by
    rw [List.filter_cons, List.filter_cons]
    by_cases e : x = y
    · subst e
      rw [if_pos hp, if_neg (by simp [hq])]
      have := filt_le p q himp l
      simp; omega
    · have hm : y ∈ l := by
        rcases List.mem_cons.1 h with h1 | h1
        · exact absurd h1.symm e
        · exact h1
      have ih := filt_lt p q himp hp hq l hm
      by_cases hqx : q x = true
      · rw [if_pos hqx, if_pos (himp x hqx)]; simpa using ih
      · rw [if_neg hqx]
        split
        · simp; omega
        · exact ih
/-- how many ends were not seen -/
def unseen (C : List (List Bool)) (seen : List Bool → Bool) : Nat := ((suf C).filter fun r => !(seen r)).length
theorem unseen_le (C : List (List Bool)) (seen : List Bool → Bool) : unseen C seen ≤ C.length * 9 := by
  unfold unseen
  rw [← suf_len C]
  exact List.length_filter_le _ _
theorem unseen_less {C : List (List Bool)} {seen : List Bool → Bool} {r : List Bool} (hr : r ∈ suf C) (h : seen r = false) : unseen C (fun x => decide (x = r) || seen x) < unseen C seen := by
  unfold unseen
  refine filt_lt _ _ ?_ (y := r) (by simp [h]) (by simp) _ hr
  intro x hx
  simp at hx ⊢
  exact hx.2

/-- what one list is ahead of the other one, and the lists -/
structure US where
  rest : List Bool
  a : List Nat
  b : List Nat
def wrN (C : List (List Bool)) (l : List Nat) : List Bool := wrL C (l.map fun i : Nat => (i : Int))
theorem wrN_append (C : List (List Bool)) (l : List Nat) (i : Nat) : wrN C (l ++ [i]) = wrN C l ++ C.getD i [] := by
  unfold wrN wrL
  simp [wordAt]
theorem wrN_one (C : List (List Bool)) (i : Nat) : wrN C [i] = C.getD i [] := by
  unfold wrN wrL
  simp [wordAt]
structure UOk (C : List (List Bool)) (s : US) : Prop where
  ur : UR C s.rest
  la : ∀ i ∈ s.a, i < C.length
  lb : ∀ i ∈ s.b, i < C.length
  wr : wrN C s.a = wrN C s.b ++ s.rest
  ne : ∃ x xs y ys, s.a = x :: xs ∧ s.b = y :: ys ∧ x ≠ y
theorem UOk.differ {C : List (List Bool)} {s : US} (h : UOk C s) : s.a ≠ s.b := by
  obtain ⟨x, xs, y, ys, h1, h2, h3⟩ := h.ne
  rw [h1, h2]
  intro e
  injection e with e _
  exact h3 e
/-- from a state by a word -/
def stepS (w : List Bool) (s : US) (i : Nat) : List US :=
  if begB w s.rest = true then [⟨s.rest.drop w.length, s.a, s.b ++ [i]⟩] else if begB s.rest w = true then [⟨w.drop s.rest.length, s.b ++ [i], s.a⟩] else []
def pushS (C : List (List Bool)) (s : US) : Nat → List US
  | 0 => []
  | k + 1 => pushS C s k ++ stepS (C.getD k []) s k
theorem stepS_len (w : List Bool) (s : US) (i : Nat) : (stepS w s i).length ≤ 1 := by
  unfold stepS; split
  · simp
  · split <;> simp
theorem pushS_len (C : List (List Bool)) (s : US) (k : Nat) : (pushS C s k).length ≤ k := by
  induction k with
  | zero => simp [pushS]
  | succ k ih => rw [pushS, List.length_append]; have := stepS_len (C.getD k []) s k; omega
theorem stepS_paths {w : List Bool} {s t : US} {i : Nat} (h : t ∈ stepS w s i) : t.a.length + t.b.length = s.a.length + s.b.length + 1 := by
  unfold stepS at h
  split at h
  · rw [List.mem_singleton.1 h]; simp; omega
  · split at h
    · rw [List.mem_singleton.1 h]; simp; omega
    · simp at h
theorem mem_pushS {C : List (List Bool)} {s t : US} {k : Nat} (h : t ∈ pushS C s k) : ∃ i, i < k ∧ t ∈ stepS (C.getD i []) s i := by
  induction k with
  | zero => simp [pushS] at h
  | succ k ih =>
    rw [pushS, List.mem_append] at h
    rcases h with h | h
    · obtain ⟨i, h1, h2⟩ := ih h
      exact ⟨i, by omega, h2⟩
    · exact ⟨k, by omega, h⟩
theorem pushS_mem {C : List (List Bool)} {s t : US} {i k : Nat} (hi : i < k) (h : t ∈ stepS (C.getD i []) s i) : t ∈ pushS C s k := by
  induction k with
  | zero => omega
  | succ k ih =>
    rw [pushS, List.mem_append]
    rcases Nat.lt_or_ge i k with h1 | h1
    · exact .inl (ih h1)
    · obtain rfl : i = k := by omega
      exact .inr h
theorem getD_at {α : Type} {l : List α} {i : Nat} {x d : α} (h : l[i]? = some x) : l.getD i d = x := by simp [List.getD, h]
theorem UOk.step {C : List (List Bool)} {s t : US} {i : Nat} {w : List Bool} (h : UOk C s) (hw : C[i]? = some w) (ht : t ∈ stepS w s i) : UOk C t := by
  have hi : i < C.length := (List.getElem?_eq_some_iff.1 hw).1
  obtain ⟨x, xs, y, ys, e1, e2, e3⟩ := h.ne
  unfold stepS at ht
  by_cases hb : begB w s.rest = true
  · rw [if_pos hb] at ht
    rw [List.mem_singleton.1 ht]
    refine ⟨h.ur.more (mem_at hw) (by unfold nx; rw [if_pos hb]), h.la, ?_, ?_, ⟨x, xs, y, ys ++ [i], e1, by simp [e2], e3⟩⟩
    · intro j hj
      rcases List.mem_append.1 hj with hj | hj
      · exact h.lb j hj
      · rw [List.mem_singleton.1 hj]; exact hi
    · show wrN C s.a = wrN C (s.b ++ [i]) ++ s.rest.drop w.length
      rw [wrN_append, getD_at hw, List.append_assoc, ← begB_true hb]; exact h.wr
  · rw [if_neg hb] at ht
    by_cases hb2 : begB s.rest w = true
    · rw [if_pos hb2] at ht
      rw [List.mem_singleton.1 ht]
      refine ⟨h.ur.more (mem_at hw) (by unfold nx; rw [if_neg hb, if_pos hb2]), ?_, h.la, ?_, ⟨y, ys ++ [i], x, xs, by simp [e2], e1, fun e => e3 e.symm⟩⟩
      · intro j hj
        rcases List.mem_append.1 hj with hj | hj
        · exact h.lb j hj
        · rw [List.mem_singleton.1 hj]; exact hi
      · show wrN C (s.b ++ [i]) = wrN C s.a ++ w.drop s.rest.length
        rw [wrN_append, getD_at hw, h.wr, List.append_assoc, ← begB_true hb2]
    · rw [if_neg hb2] at ht; simp at ht
theorem stepS_nx {w r : List Bool} {s : US} {i : Nat} (h : nx w s.rest = some r) : ∃ t ∈ stepS w s i, t.rest = r := by
  unfold nx at h
  unfold stepS
  by_cases hb : begB w s.rest = true
  · rw [if_pos hb] at h ⊢
    injection h with h
    exact ⟨_, List.mem_singleton.2 rfl, h⟩
  · rw [if_neg hb] at h ⊢
    by_cases hb2 : begB s.rest w = true
    · rw [if_pos hb2] at h ⊢
      injection h with h
      exact ⟨_, List.mem_singleton.2 rfl, h⟩
    · rw [if_neg hb2] at h; cases h

/-- the first states: of words i, j -/
def firstS (C : List (List Bool)) (i j : Nat) : List US := if ((i != j) && begB (C.getD j []) (C.getD i [])) = true then [⟨(C.getD i []).drop (C.getD j []).length, [i], [j]⟩] else []
def startJ (C : List (List Bool)) (i : Nat) : Nat → List US
  | 0 => []
  | j + 1 => startJ C i j ++ firstS C i j
def startI (C : List (List Bool)) (n : Nat) : Nat → List US
  | 0 => []
  | i + 1 => startI C n i ++ startJ C i n
theorem startJ_len (C : List (List Bool)) (i k : Nat) : (startJ C i k).length ≤ k := by
  induction k with
  | zero => simp [startJ]
  | succ k ih =>
    rw [startJ, List.length_append]
    have : (firstS C i k).length ≤ 1 := by unfold firstS; split <;> simp
    omega
theorem startI_len (C : List (List Bool)) (n k : Nat) : (startI C n k).length ≤ k * n := by
  induction k with
  | zero => simp [startI]
  | succ k ih => rw [startI, List.length_append, Nat.succ_mul]; have := startJ_len C k n; omega
theorem mem_startJ {C : List (List Bool)} {i k : Nat} {t : US} : t ∈ startJ C i k ↔ ∃ j, j < k ∧ t ∈ firstS C i j := by
  induction k with
  | zero => simp [startJ]
  | succ k ih =>
    rw [startJ, List.mem_append, ih]
    constructor
    · rintro (⟨j, h1, h2⟩ | h)
      · exact ⟨j, by omega, h2⟩
      · exact ⟨k, by omega, h⟩
    · rintro ⟨j, h1, h2⟩
      rcases Nat.lt_or_ge j k with h3 | h3
      · exact .inl ⟨j, h3, h2⟩
      · obtain rfl : j = k := by omega
        exact .inr h2
theorem mem_startI {C : List (List Bool)} {n k : Nat} {t : US} : t ∈ startI C n k ↔ ∃ i, i < k ∧ ∃ j, j < n ∧ t ∈ firstS C i j := by
  induction k with
  | zero => simp [startI]
  | succ k ih =>
    rw [startI, List.mem_append, ih, mem_startJ]
    constructor
    · rintro (⟨i, h1, h2⟩ | h)
      · exact ⟨i, by omega, h2⟩
      · exact ⟨k, by omega, h⟩
    · rintro ⟨i, h1, h2⟩
      rcases Nat.lt_or_ge i k with h3 | h3
      · exact .inl ⟨i, h3, h2⟩
      · obtain rfl : i = k := by omega
        exact .inr h2
theorem firstS_ok {C : List (List Bool)} {i j : Nat} (hi : i < C.length) (hj : j < C.length) {t : US} (h : t ∈ firstS C i j) : UOk C t ∧ t.a.length + t.b.length = 2 := by
  unfold firstS at h
  split at h
  · rename_i h1
    rw [Bool.and_eq_true, bne_iff_ne] at h1
    obtain ⟨h1, h2⟩ := h1
    have ei := List.getElem?_eq_getElem hi
    have ej := List.getElem?_eq_getElem hj
    rw [getD_at ei, getD_at ej] at h h2
    rw [List.mem_singleton.1 h]
    refine ⟨⟨.start ei ej h1 h2, by simpa using hi, by simpa using hj, ?_, ⟨i, [], j, [], rfl, rfl, h1⟩⟩, rfl⟩
    show wrN C [i] = wrN C [j] ++ _
    rw [wrN_one, wrN_one, getD_at ei, getD_at ej]
    exact begB_true h2
  · simp at h

/-- what find keeps -/
structure UInv (C : List (List Bool)) (seen : List Bool → Bool) (q : List US) : Prop where
  ok : ∀ s ∈ q, UOk C s
  ne : seen [] = false
  starts : ∀ (i j : Nat) (a b : List Bool), C[i]? = some a → C[j]? = some b → i ≠ j → begB b a = true → seen (a.drop b.length) = true ∨ ∃ s ∈ q, s.rest = a.drop b.length
  closed : ∀ r, seen r = true → ∀ w ∈ C, ∀ s, nx w r = some s → seen s = true ∨ ∃ t ∈ q, t.rest = s
  room : q.length + 9 * unseen C seen ≤ 64 + 9 * (C.length * 9)
  path : ∀ s ∈ q, s.a.length + s.b.length + unseen C seen ≤ 2 + C.length * 9
theorem UInv.start (C : List (List Bool)) (hn : C.length ≤ 8) : UInv C (fun _ => false) (startI C C.length C.length) where
  ok := fun s hs => by
    obtain ⟨i, hi, j, hj, h⟩ := mem_startI.1 hs
    exact (firstS_ok hi hj h).1
  ne := rfl
  starts := fun i j a b hi hj hne hb => by
    refine .inr ⟨⟨a.drop b.length, [i], [j]⟩, mem_startI.2 ⟨i, (List.getElem?_eq_some_iff.1 hi).1, j, (List.getElem?_eq_some_iff.1 hj).1, ?_⟩, rfl⟩
    unfold firstS
    rw [getD_at hi, getD_at hj, hb]
    have : (i != j) = true := by simpa using hne
    rw [this]
    simp
  closed := fun r h => by simp at h
  room := by
    have h1 := startI_len C C.length C.length
    have h2 := unseen_le C (fun _ => false)
    have h3 : C.length * C.length ≤ 8 * 8 := Nat.mul_le_mul hn hn
    omega
  path := fun s hs => by
    obtain ⟨i, hi, j, hj, h⟩ := mem_startI.1 hs
    have h1 := (firstS_ok hi hj h).2
    have h2 := unseen_le C (fun _ => false)
    omega
theorem UInv.skip {C : List (List Bool)} {seen : List Bool → Bool} {s : US} {q : List US} (h : UInv C seen (s :: q)) (hs : seen s.rest = true) : UInv C seen q where
  ok := fun t ht => h.ok t (List.mem_cons_of_mem _ ht)
  ne := h.ne
  starts := fun i j a b hi hj hne hb => by
    rcases h.starts i j a b hi hj hne hb with h1 | ⟨t, ht, e⟩
    · exact .inl h1
    · rcases List.mem_cons.1 ht with rfl | ht
      · exact .inl (by rw [← e]; exact hs)
      · exact .inr ⟨t, ht, e⟩
  closed := fun r hr w hw x hx => by
    rcases h.closed r hr w hw x hx with h1 | ⟨t, ht, e⟩
    · exact .inl h1
    · rcases List.mem_cons.1 ht with rfl | ht
      · exact .inl (by rw [← e]; exact hs)
      · exact .inr ⟨t, ht, e⟩
  room := by have := h.room; simp only [List.length_cons] at this; omega
  path := fun t ht => h.path t (List.mem_cons_of_mem _ ht)
theorem UInv.next {C : List (List Bool)} {seen : List Bool → Bool} {s : US} {q : List US} (h8 : ∀ w ∈ C, w.length ≤ 8) (hn : C.length ≤ 8) (h : UInv C seen (s :: q)) (hs : seen s.rest = false) (hne : s.rest ≠ []) :
    UInv C (fun x => decide (x = s.rest) || seen x) (q ++ pushS C s C.length) := by
  have hok := h.ok s (List.mem_cons_self ..)
  have hlt := unseen_less (hok.ur.suf h8) hs
  have stay : ∀ r, (seen r = true ∨ ∃ t ∈ s :: q, t.rest = r) → (decide (r = s.rest) || seen r) = true ∨ ∃ t ∈ q ++ pushS C s C.length, t.rest = r := by
    rintro r (h1 | ⟨t, ht, e⟩)
    · exact .inl (by simp [h1])
    · rcases List.mem_cons.1 ht with rfl | ht
      · exact .inl (by simp [e])
      · exact .inr ⟨t, List.mem_append_left _ ht, e⟩
  refine ⟨?_, ?_, ?_, ?_, ?_, ?_⟩
  · intro t ht
    rcases List.mem_append.1 ht with ht | ht
    · exact h.ok t (List.mem_cons_of_mem _ ht)
    · obtain ⟨i, hi, ht⟩ := mem_pushS ht
      have ei := List.getElem?_eq_getElem hi
      rw [getD_at ei] at ht
      exact hok.step ei ht
  · simp [h.ne]; exact hne
  · exact fun i j a b hi hj hne hb => stay _ (h.starts i j a b hi hj hne hb)
  · intro r hr w hw x hx
    by_cases e : r = s.rest
    · subst e
      obtain ⟨i, hi, rfl⟩ := List.mem_iff_getElem.1 hw
      obtain ⟨t, ht, e⟩ := stepS_nx (i := i) hx
      refine .inr ⟨t, List.mem_append_right _ (pushS_mem hi ?_), e⟩
      rw [getD_at (List.getElem?_eq_getElem hi)]; exact ht
    · simp [e] at hr
      exact stay _ (h.closed r hr w hw x hx)
  · have h1 := h.room
    have h2 := pushS_len C s C.length
    simp only [List.length_cons] at h1
    rw [List.length_append]
    omega
  · intro t ht
    rcases List.mem_append.1 ht with ht | ht
    · have := h.path t (List.mem_cons_of_mem _ ht); omega
    · obtain ⟨i, hi, ht⟩ := mem_pushS ht
      have h1 := stepS_paths ht
      have h2 := h.path s (List.mem_cons_self ..)
      omega
theorem UInv.done {C : List (List Bool)} {seen : List Bool → Bool} (h : UInv C seen []) : ¬ UR C [] := by
  have key : ∀ r, UR C r → seen r = true := by
    intro r hr
    induction hr with
    | start hi hj hne hb =>
      rcases h.starts _ _ _ _ hi hj hne hb with h1 | ⟨t, ht, _⟩
      · exact h1
      · simp at ht
    | more hr hw hx ih =>
      rcases h.closed _ ih _ hw _ hx with h1 | ⟨t, ht, _⟩
      · exact h1
      · simp at ht
  intro h0
  have := key [] h0
  rw [h.ne] at this
  cases this

/-- what find answers -/
def FindR (C : List (List Bool)) (a b : List Nat) : Prop :=
  (Unamb C ∧ a = [] ∧ b = []) ∨ (¬ Unamb C ∧ 0 < a.length ∧ (∀ i ∈ a, i < C.length) ∧ (∀ i ∈ b, i < C.length) ∧ wrN C a = wrN C b ∧ a ≠ b)
theorem FindR.empty {C : List (List Bool)} {i : Nat} (h : C[i]? = some []) : FindR C [i] [] := by
  refine .inr ⟨fun hu => hu.1 (mem_at h), by simp, by simpa using (List.getElem?_eq_some_iff.1 h).1, by simp, ?_, by simp⟩
  rw [wrN_one, getD_at h]; rfl
theorem FindR.hit {C : List (List Bool)} {seen : List Bool → Bool} {s : US} {q : List US} (h : UInv C seen (s :: q)) (hs : s.rest = []) : FindR C s.a s.b := by
  have hok := h.ok s (List.mem_cons_self ..)
  refine .inr ⟨fun hu => hu.2 (by rw [← hs]; exact hok.ur), ?_, hok.la, hok.lb, by rw [hok.wr, hs, List.append_nil], hok.differ⟩
  obtain ⟨x, xs, _, _, e, _⟩ := hok.ne
  rw [e]; simp
theorem FindR.none_ {C : List (List Bool)} {seen : List Bool → Bool} (hC : [] ∉ C) (h : UInv C seen []) : FindR C [] [] := .inl ⟨⟨hC, h.done⟩, rfl, rfl⟩

/-- the reference: its list of what is ahead -/
def refF (C : List (List Bool)) (i j : Nat) : List (List Bool) := if ((i != j) && begB (C.getD i []) (C.getD j [])) = true then [(C.getD j []).drop (C.getD i []).length] else []
def refJ (C : List (List Bool)) (i : Nat) : Nat → List (List Bool)
  | 0 => []
  | j + 1 => refJ C i j ++ refF C i j
def refI (C : List (List Bool)) (n : Nat) : Nat → List (List Bool)
  | 0 => []
  | i + 1 => refI C n i ++ refJ C i n
theorem refJ_len (C : List (List Bool)) (i k : Nat) : (refJ C i k).length ≤ k := by
  induction k with
  | zero => simp [refJ]
  | succ k ih =>
    rw [refJ, List.length_append]
    have : (refF C i k).length ≤ 1 := by unfold refF; split <;> simp
    omega
theorem refI_len (C : List (List Bool)) (n k : Nat) : (refI C n k).length ≤ k * n := by
  induction k with
  | zero => simp [refI]
  | succ k ih => rw [refI, List.length_append, Nat.succ_mul]; have := refJ_len C k n; omega
theorem mem_refJ {C : List (List Bool)} {i k : Nat} {t : List Bool} : t ∈ refJ C i k ↔ ∃ j, j < k ∧ t ∈ refF C i j := by
  induction k with
  | zero => simp [refJ]
  | succ k ih =>
    rw [refJ, List.mem_append, ih]
    constructor
    · rintro (⟨j, h1, h2⟩ | h)
      · exact ⟨j, by omega, h2⟩
      · exact ⟨k, by omega, h⟩
    · rintro ⟨j, h1, h2⟩
      rcases Nat.lt_or_ge j k with h3 | h3
      · exact .inl ⟨j, h3, h2⟩
      · obtain rfl : j = k := by omega
        exact .inr h2
theorem mem_refI {C : List (List Bool)} {n k : Nat} {t : List Bool} : t ∈ refI C n k ↔ ∃ i, i < k ∧ ∃ j, j < n ∧ t ∈ refF C i j := by
  induction k with
  | zero => simp [refI]
  | succ k ih =>
    rw [refI, List.mem_append, ih, mem_refJ]
    constructor
    · rintro (⟨i, h1, h2⟩ | h)
      · exact ⟨i, by omega, h2⟩
      · exact ⟨k, by omega, h⟩
    · rintro ⟨i, h1, h2⟩
      rcases Nat.lt_or_ge i k with h3 | h3
      · exact .inl ⟨i, h3, h2⟩
      · obtain rfl : i = k := by omega
        exact .inr h2
/-- what the reference keeps, k rests told, and of the next one m words -/
structure RInv (C L : List (List Bool)) (k m : Nat) : Prop where
  ok : ∀ r ∈ L, UR C r
  starts : ∀ (i j : Nat) (a b : List Bool), C[i]? = some a → C[j]? = some b → i ≠ j → begB b a = true → a.drop b.length ∈ L
  ne : ∀ j, j < k → L[j]? ≠ some []
  closed : ∀ j, j < k → ∀ r, L[j]? = some r → ∀ w ∈ C, ∀ s, nx w r = some s → s ∈ L
  part : ∀ r, L[k]? = some r → ∀ i, i < m → ∀ w, C[i]? = some w → ∀ s, nx w r = some s → s ∈ L
  room : L.length + unseen C (fun r => decide (r ∈ L)) ≤ 64 + C.length * 9
theorem RInv.start (C : List (List Bool)) (hn : C.length ≤ 8) : RInv C (refI C C.length C.length) 0 0 where
  ok := fun r hr => by
    obtain ⟨i, hi, j, hj, h⟩ := mem_refI.1 hr
    unfold refF at h
    split at h
    · rename_i h1
      rw [Bool.and_eq_true, bne_iff_ne] at h1
      have ei := List.getElem?_eq_getElem hi
      have ej := List.getElem?_eq_getElem hj
      rw [getD_at ei, getD_at ej] at h h1
      rw [List.mem_singleton.1 h]
      exact .start ej ei (fun e => h1.1 e.symm) h1.2
    · simp at h
  starts := fun i j a b hi hj hne hb => by
    refine mem_refI.2 ⟨j, (List.getElem?_eq_some_iff.1 hj).1, i, (List.getElem?_eq_some_iff.1 hi).1, ?_⟩
    unfold refF
    rw [getD_at hi, getD_at hj, hb]
    have : (j != i) = true := by simpa using fun e => hne e.symm
    rw [this]
    simp
  ne := fun j hj => by omega
  closed := fun j hj => by omega
  part := fun r _ i hi => by omega
  room := by
    have h1 := refI_len C C.length C.length
    have h2 := unseen_le C (fun r => decide (r ∈ refI C C.length C.length))
    have h3 : C.length * C.length ≤ 8 * 8 := Nat.mul_le_mul hn hn
    omega
/-- no new rest by word m -/
theorem RInv.stay {C L : List (List Bool)} {k m : Nat} {r w : List Bool} (h : RInv C L k m) (hr : L[k]? = some r) (hw : C[m]? = some w) (hs : ∀ s, nx w r = some s → s ∈ L) : RInv C L k (m + 1) where
  ok := h.ok
  starts := h.starts
  ne := h.ne
  closed := h.closed
  part := fun r' hr' i hi w' hw' s hs' => by
    rw [hr] at hr'; injection hr' with hr'; subst hr'
    rcases Nat.lt_or_ge i m with h1 | h1
    · exact h.part r hr i h1 w' hw' s hs'
    · obtain rfl : i = m := by omega
      rw [hw] at hw'; injection hw' with hw'; subst hw'
      exact hs s hs'
  room := h.room
theorem RInv.push {C L : List (List Bool)} {k m : Nat} {r w s : List Bool} (h8 : ∀ w ∈ C, w.length ≤ 8) (h : RInv C L k m) (hr : L[k]? = some r) (hw : C[m]? = some w) (hs : nx w r = some s) (hnew : s ∉ L) : RInv C (L ++ [s]) k (m + 1) ∧ unseen C (fun r => decide (r ∈ L ++ [s])) < unseen C (fun r => decide (r ∈ L)) := by
  have hk : k < L.length := (List.getElem?_eq_some_iff.1 hr).1
  have hus : UR C s := (h.ok r (mem_at hr)).more (mem_at hw) hs
  have hlt : unseen C (fun r => decide (r ∈ L ++ [s])) < unseen C (fun r => decide (r ∈ L)) := by
    have h1 := unseen_less (seen := fun r => decide (r ∈ L)) (hus.suf h8) (by simpa using hnew)
    have h2 : (fun x => decide (x = s) || decide (x ∈ L)) = fun r => decide (r ∈ L ++ [s]) := by
      funext x
      simp only [List.mem_append, List.mem_singleton]
      rw [← Bool.decide_or]
      exact decide_eq_decide.2 Or.comm
    rw [h2] at h1
    exact h1
  refine ⟨⟨?_, ?_, ?_, ?_, ?_, ?_⟩, hlt⟩
  · intro x hx
    rcases List.mem_append.1 hx with hx | hx
    · exact h.ok x hx
    · rw [List.mem_singleton.1 hx]; exact hus
  · exact fun i j a b hi hj hne hb => List.mem_append_left _ (h.starts i j a b hi hj hne hb)
  · intro j hj
    rw [List.getElem?_append_left (by omega)]
    exact h.ne j hj
  · intro j hj x hx w' hw' y hy
    rw [List.getElem?_append_left (by omega)] at hx
    exact List.mem_append_left _ (h.closed j hj x hx w' hw' y hy)
  · intro x hx i hi w' hw' y hy
    rw [List.getElem?_append_left hk, hr] at hx
    injection hx with hx; subst hx
    rcases Nat.lt_or_ge i m with h1 | h1
    · exact List.mem_append_left _ (h.part r hr i h1 w' hw' y hy)
    · obtain rfl : i = m := by omega
      rw [hw] at hw'; injection hw' with hw'; subst hw'
      rw [hs] at hy; injection hy with hy; subst hy
      exact List.mem_append_right _ (List.mem_singleton.2 rfl)
  · have := h.room
    rw [List.length_append]
    simp only [List.length_cons, List.length_nil]
    omega
theorem RInv.round {C L : List (List Bool)} {k m : Nat} {r : List Bool} (h : RInv C L k m) (hr : L[k]? = some r) (hne : r ≠ []) (hm : C.length ≤ m) : RInv C L (k + 1) 0 where
  ok := h.ok
  starts := h.starts
  ne := fun j hj => by
    rcases Nat.lt_or_ge j k with h1 | h1
    · exact h.ne j h1
    · obtain rfl : j = k := by omega
      rw [hr]; intro e; injection e with e; exact hne e
  closed := fun j hj x hx w hw y hy => by
    rcases Nat.lt_or_ge j k with h1 | h1
    · exact h.closed j h1 x hx w hw y hy
    · obtain rfl : j = k := by omega
      rw [hr] at hx; injection hx with hx; subst hx
      obtain ⟨i, hi, rfl⟩ := List.mem_iff_getElem.1 hw
      exact h.part r hr i (by omega) _ (List.getElem?_eq_getElem hi) y hy
  part := fun _ _ i hi => by omega
  room := h.room
theorem RInv.done {C L : List (List Bool)} {k m : Nat} (h : RInv C L k m) (hk : L.length ≤ k) : ¬ UR C [] := by
  have key : ∀ r, UR C r → r ∈ L := by
    intro r hr
    induction hr with
    | start hi hj hne hb => exact h.starts _ _ _ _ hi hj hne hb
    | more hr hw hx ih =>
      obtain ⟨j, hj, e⟩ := List.mem_iff_getElem.1 ih
      exact h.closed j (by omega) _ (by rw [List.getElem?_eq_getElem hj, e]) _ hw _ hx
  intro h0
  obtain ⟨j, hj, e⟩ := List.mem_iff_getElem.1 (key [] h0)
  exact h.ne j (by omega) (by rw [List.getElem?_eq_getElem hj, e])
theorem RInv.hit {C L : List (List Bool)} {k m : Nat} (h : RInv C L k m) (hr : L[k]? = some []) : uniB C = false := uniB_false fun hu => hu.2 (h.ok [] (mem_at hr))
end Go.Proofs.Ytpbffbhebdcpbaa

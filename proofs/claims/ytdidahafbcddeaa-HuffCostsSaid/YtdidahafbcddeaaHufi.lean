/-
  Huffman: what huff.lens keeps. Plain words.
-/
import Derived.Test.YtdidahafbcddeaaHufm
set_option linter.unusedVariables false
namespace Go.Proofs.Ytdidahafbcddeaa

/-- what words of these lengths cost -/
def costN (ws L : List Nat) : Nat := ((List.range ws.length).map fun i => ws.getD i 0 * L.getD i 0).sum
/-- one more for each of these symbols -/
def bump : List Nat → List Nat → List Nat
  | L, [] => L
  | L, s :: r => bump (L.set s (L.getD s 0 + 1)) r
theorem bump_len : ∀ (S L : List Nat), (bump L S).length = L.length
  | [], _ => rfl
  | s :: r, L => by rw [bump, bump_len r]; simp
theorem getD_set (L : List Nat) (i j x : Nat) (hi : i < L.length) : (L.set i x).getD j 0 = if j = i then x else L.getD j 0 := by
  rw [List.getD_eq_getElem?_getD, List.getD_eq_getElem?_getD]
  by_cases h : j = i
  · subst h; rw [if_pos rfl, List.getElem?_set_self hi]; rfl
  · rw [if_neg h, List.getElem?_set_ne (by omega)]
theorem bump_at : ∀ (S L : List Nat), S.Nodup → (∀ s ∈ S, s < L.length) → ∀ j, (bump L S).getD j 0 = L.getD j 0 + if j ∈ S then 1 else 0
  | [], L, _, _, j => by simp [bump]
  | s :: r, L, hn, hl, j => by
    have hs := hl s (by simp)
    obtain ⟨h1, h2⟩ := List.nodup_cons.1 hn
    rw [bump, bump_at r _ h2 (fun x hx => by rw [List.length_set]; exact hl x (List.mem_cons_of_mem _ hx)) j, getD_set _ _ _ _ hs]
    by_cases h : j = s
    · subst h
      rw [if_pos rfl, if_neg h1, if_pos (by simp)]
    · rw [if_neg h]
      simp [h]
theorem sum_set (ws L : List Nat) (s : Nat) : ∀ n, s < n → ((List.range n).map fun i => ws.getD i 0 * (if i = s then L.getD i 0 + 1 else L.getD i 0)).sum = ((List.range n).map fun i => ws.getD i 0 * L.getD i 0).sum + ws.getD s 0
  | 0, h => by omega
  | n + 1, h => by
    rw [List.range_succ, List.map_append, List.map_append, List.sum_append, List.sum_append]
    simp only [List.map_cons, List.map_nil, List.sum_cons, List.sum_nil, Nat.add_zero]
    by_cases hs : s = n
    · subst hs
      have e : ((List.range s).map fun i => ws.getD i 0 * (if i = s then L.getD i 0 + 1 else L.getD i 0)) = (List.range s).map fun i => ws.getD i 0 * L.getD i 0 := by
        apply List.map_congr_left
        intro i hi
        have := List.mem_range.1 hi
        rw [if_neg (by omega)]
      rw [e, if_pos rfl, Nat.mul_add]
      omega
    · rw [sum_set ws L s n (by omega), if_neg (by omega)]
      omega
theorem costN_set (ws L : List Nat) (s : Nat) (hl : L.length = ws.length) (hs : s < ws.length) : costN ws (L.set s (L.getD s 0 + 1)) = costN ws L + ws.getD s 0 := by
  unfold costN
  rw [← sum_set ws L s ws.length hs]
  congr 1
  apply List.map_congr_left
  intro i hi
  rw [getD_set _ _ _ _ (by omega)]
  by_cases h : i = s
  · subst h; rw [if_pos rfl]
  · rw [if_neg h, if_neg h]
theorem costN_bump (ws : List Nat) : ∀ (S L : List Nat), L.length = ws.length → (∀ s ∈ S, s < ws.length) → costN ws (bump L S) = costN ws L + (S.map fun i => ws.getD i 0).sum
  | [], L, _, _ => by simp [bump]
  | s :: r, L, hl, hs => by
    rw [bump, costN_bump ws r _ (by rw [List.length_set]; exact hl) (fun x hx => hs x (List.mem_cons_of_mem _ hx)), costN_set ws L s hl (hs s (by simp))]
    simp only [List.map_cons, List.sum_cons]
    omega
theorem costN_zero (ws : List Nat) (n : Nat) : costN ws (List.replicate n 0) = 0 := by
  unfold costN
  have : ∀ l : List Nat, (l.map fun i => ws.getD i 0 * (List.replicate n 0).getD i 0).sum = 0 := by
    intro l
    induction l with
    | nil => rfl
    | cons x l ih =>
      have hz : (List.replicate n 0).getD x 0 = 0 := by
        rw [List.getD_eq_getElem?_getD, List.getElem?_replicate]
        split <;> rfl
      rw [List.map_cons, List.sum_cons, ih, hz]
      simp
  exact this _
/-- trees that are left: their weights, their symbols -/
abbrev Ent := Nat × List Nat
structure HufI (ws : List Nat) (es : List Ent) (L : List Nat) : Prop where
  len : L.length = ws.length
  syms : ((es.map Prod.snd).flatten).Perm (List.range ws.length)
  wt : ∀ e ∈ es, e.1 = (e.2.map fun i => ws.getD i 0).sum
  lt : ∀ e ∈ es, ∀ s ∈ e.2, L.getD s 0 < e.2.length
  kraft : ∀ e ∈ es, (e.2.map fun s => 2 ^ (8 - L.getD s 0)).sum = 256
  paid : Paid ws (es.map Prod.fst) (costN ws L)
theorem HufI.perm {ws : List Nat} {es es' : List Ent} {L : List Nat} (h : HufI ws es L) (hp : es'.Perm es) : HufI ws es' L :=
  ⟨h.len, ((hp.map Prod.snd).flatten).trans h.syms, fun e he => h.wt e (hp.mem_iff.1 he), fun e he => h.lt e (hp.mem_iff.1 he), fun e he => h.kraft e (hp.mem_iff.1 he), h.paid.perm (hp.map Prod.fst)⟩
def startE (ws : List Nat) (k : Nat) : List Ent := (List.range k).map fun i => (ws.getD i 0, [i])
theorem startE_next (ws : List Nat) (k : Nat) : startE ws (k + 1) = startE ws k ++ [(ws.getD k 0, [k])] := by
  unfold startE; rw [List.range_succ, List.map_append]; rfl
theorem flatten_single {α β : Type} (f : α → β) : ∀ l : List α, (l.map fun i => [f i]).flatten = l.map f
  | [] => rfl
  | x :: r => by rw [List.map_cons, List.flatten_cons, flatten_single f r]; rfl
theorem HufI.start (ws : List Nat) : HufI ws (startE ws ws.length) (List.replicate ws.length 0) := by
  have hz : ∀ i, (List.replicate ws.length 0).getD i 0 = 0 := fun i => by
    rw [List.getD_eq_getElem?_getD, List.getElem?_replicate]
    split <;> rfl
  refine ⟨by simp, ?_, fun e he => ?_, fun e he s hs => ?_, fun e he => ?_, ?_⟩
  · unfold startE
    rw [List.map_map]
    show ((List.range ws.length).map fun i => [i]).flatten.Perm _
    rw [flatten_single (fun i => i), List.map_id']
  · obtain ⟨i, _, rfl⟩ := List.mem_map.1 he
    simp
  · obtain ⟨i, _, rfl⟩ := List.mem_map.1 he
    rw [hz]; simp
  · obtain ⟨i, _, rfl⟩ := List.mem_map.1 he
    simp only [List.map_cons, List.map_nil, hz]
    rfl
  · rw [costN_zero]
    have : (startE ws ws.length).map Prod.fst = ws := by
      unfold startE
      rw [List.map_map]
      apply List.ext_getElem?
      intro i
      rw [List.getElem?_map]
      rcases Nat.lt_or_ge i ws.length with h | h
      · rw [List.getElem?_range h, List.getElem?_eq_getElem h]
        simp [List.getD, List.getElem?_eq_getElem h]
      · rw [List.getElem?_eq_none (by simpa using h), List.getElem?_eq_none h]; rfl
    rw [this]
    exact Paid.start ws
theorem kraft_half (L : List Nat) : ∀ S : List Nat, (∀ s ∈ S, L.getD s 0 < 8) → (S.map fun s => 2 ^ (8 - L.getD s 0)).sum = 2 * (S.map fun s => 2 ^ (8 - (L.getD s 0 + 1))).sum
  | [], _ => rfl
  | s :: r, h => by
    have h1 := h s (by simp)
    rw [List.map_cons, List.sum_cons, kraft_half L r (fun x hx => h x (List.mem_cons_of_mem _ hx)), List.map_cons, List.sum_cons, show 8 - L.getD s 0 = 8 - (L.getD s 0 + 1) + 1 by omega, Nat.pow_succ]
    omega
theorem HufI.inR {ws : List Nat} {es : List Ent} {L : List Nat} (h : HufI ws es L) {e : Ent} (he : e ∈ es) {s : Nat} (hs : s ∈ e.2) : s < ws.length :=
  List.mem_range.1 (h.syms.mem_iff.1 (List.mem_flatten.2 ⟨e.2, List.mem_map_of_mem he, hs⟩))
/-- the two lightest become one -/
theorem HufI.step {ws : List Nat} {e1 e2 : Ent} {R : List Ent} {L : List Nat} (h : HufI ws (e1 :: e2 :: R) L) (h8 : ws.length ≤ 8) (h12 : e1.1 ≤ e2.1) (h2 : ∀ e ∈ R, e2.1 ≤ e.1) : HufI ws (R ++ [(e1.1 + e2.1, e1.2 ++ e2.2)]) (bump L (e1.2 ++ e2.2)) := by
  have hnd : ((e1.2 ++ e2.2) ++ (R.map Prod.snd).flatten).Nodup := by
    have := h.syms.nodup_iff.2 List.nodup_range
    simpa [List.append_assoc] using this
  obtain ⟨nd1, nd2, ndd⟩ := List.nodup_append.1 hnd
  obtain ⟨nd3, nd4, nde⟩ := List.nodup_append.1 nd1
  have hin : ∀ s ∈ e1.2 ++ e2.2, s < ws.length := fun s hs => by
    rcases List.mem_append.1 hs with hs | hs
    · exact h.inR (e := e1) (by simp) hs
    · exact h.inR (e := e2) (by simp) hs
  have hb := bump_at (e1.2 ++ e2.2) L nd1 (fun s hs => by rw [h.len]; exact hin s hs)
  have hout : ∀ e ∈ R, ∀ s ∈ e.2, (bump L (e1.2 ++ e2.2)).getD s 0 = L.getD s 0 := fun e he s hs => by
    rw [hb, if_neg, Nat.add_zero]
    intro hm
    exact ndd s hm s (List.mem_flatten.2 ⟨e.2, List.mem_map_of_mem he, hs⟩) rfl
  have hl1 := h.lt e1 (by simp)
  have hl2 := h.lt e2 (by simp)
  have hlen : e1.2.length + e2.2.length ≤ ws.length := by
    have := h.syms.length_eq
    simp only [List.map_cons, List.flatten_cons, List.length_append, List.length_range] at this
    omega
  have p1 : 0 < e1.2.length := by
    rcases Nat.eq_zero_or_pos e1.2.length with h0 | h0
    · have hk := h.kraft e1 (by simp)
      rw [List.eq_nil_of_length_eq_zero h0] at hk
      simp at hk
    · exact h0
  have p2 : 0 < e2.2.length := by
    rcases Nat.eq_zero_or_pos e2.2.length with h0 | h0
    · have hk := h.kraft e2 (by simp)
      rw [List.eq_nil_of_length_eq_zero h0] at hk
      simp at hk
    · exact h0
  refine ⟨by rw [bump_len]; exact h.len, ?_, fun e he => ?_, fun e he s hs => ?_, fun e he => ?_, ?_⟩
  · rw [List.map_append, List.flatten_append]
    refine List.Perm.trans ?_ h.syms
    simp only [List.map_cons, List.map_nil, List.flatten_cons, List.flatten_nil, List.append_nil]
    rw [← List.append_assoc (as := e1.2)]
    exact List.perm_append_comm
  · rcases List.mem_append.1 he with he | he
    · exact h.wt e (by simp [he])
    · rw [List.mem_singleton.1 he]
      simp only [List.map_append, List.sum_append]
      rw [← h.wt e1 (by simp), ← h.wt e2 (by simp)]
  · rcases List.mem_append.1 he with he | he
    · rw [hout e he s hs]
      exact h.lt e (by simp [he]) s hs
    · rw [List.mem_singleton.1 he] at hs ⊢
      simp only at hs ⊢
      rw [hb, if_pos hs, List.length_append]
      rcases List.mem_append.1 hs with h' | h'
      · have := hl1 s h'; omega
      · have := hl2 s h'; omega
  · rcases List.mem_append.1 he with he | he
    · have : e.2.map (fun s => 2 ^ (8 - (bump L (e1.2 ++ e2.2)).getD s 0)) = e.2.map (fun s => 2 ^ (8 - L.getD s 0)) := by
        apply List.map_congr_left
        intro s hs
        rw [hout e he s hs]
      rw [this]
      exact h.kraft e (by simp [he])
    · rw [List.mem_singleton.1 he]
      simp only
      have : (e1.2 ++ e2.2).map (fun s => 2 ^ (8 - (bump L (e1.2 ++ e2.2)).getD s 0)) = (e1.2 ++ e2.2).map (fun s => 2 ^ (8 - (L.getD s 0 + 1))) := by
        apply List.map_congr_left
        intro s hs
        rw [hb, if_pos hs]
      rw [this, List.map_append, List.sum_append]
      have k1 := kraft_half L e1.2 (fun s hs => by have := hl1 s hs; omega)
      have k2 := kraft_half L e2.2 (fun s hs => by have := hl2 s hs; omega)
      rw [h.kraft e1 (by simp)] at k1
      rw [h.kraft e2 (by simp)] at k2
      omega
  · have hc : ((e1.2 ++ e2.2).map fun i => ws.getD i 0).sum = e1.1 + e2.1 := by rw [List.map_append, List.sum_append, ← h.wt e1 (by simp), ← h.wt e2 (by simp)]
    rw [costN_bump ws _ L h.len hin, hc]
    have hp := h.paid.step (a := e1.1) (b := e2.1) (W := R.map Prod.fst) h12 (fun x hx => by
      obtain ⟨e, he, rfl⟩ := List.mem_map.1 hx
      exact h2 e he)
    refine hp.perm ?_
    rw [List.map_append]
    exact List.perm_append_comm
/-- in the end -/
structure HufE (ws L : List Nat) : Prop where
  len : L.length = ws.length
  lt : ∀ s, s < ws.length → L.getD s 0 < ws.length
  kraft : ((List.range ws.length).map fun s => 2 ^ (8 - L.getD s 0)).sum ≤ 256
  least : (ws = [] ∧ costN ws L = 0) ∨ MinT ws (costN ws L)
theorem HufI.done {ws : List Nat} {es : List Ent} {L : List Nat} (h : HufI ws es L) (h1 : es.length ≤ 1) : HufE ws L := by
  match es, h1 with
  | [], _ =>
    have : ws.length = 0 := by
      have := h.syms.length_eq
      simp at this
      omega
    have hw : ws = [] := List.eq_nil_of_length_eq_zero this
    subst hw
    exact ⟨h.len, fun s hs => by simp at hs, by simp, .inl ⟨rfl, by simp [costN]⟩⟩
  | [e], _ =>
    have hp : e.2.Perm (List.range ws.length) := by have := h.syms; simpa using this
    refine ⟨h.len, fun s hs => ?_, ?_, .inr ?_⟩
    · have h2 : s ∈ e.2 := hp.mem_iff.2 (List.mem_range.2 hs)
      have h3 := h.lt e (by simp) s h2
      have h4 := hp.length_eq
      rw [List.length_range] at h4
      omega
    · rw [← sum_perm (hp.map _), h.kraft e (by simp)]
      exact Nat.le_refl _
    · have := h.paid
      exact Paid.done (by simpa using this)
theorem HufI.cost_len {ws : List Nat} {es : List Ent} {L : List Nat} (h : HufI ws es L) : es.length ≤ ws.length := by
  have h1 := h.syms.length_eq
  rw [List.length_range] at h1
  rw [← h1]
  have : ∀ es : List Ent, (∀ e ∈ es, 0 < e.2.length) → es.length ≤ ((es.map Prod.snd).flatten).length := by
    intro es
    induction es with
    | nil => intro _; simp
    | cons e es ih =>
      intro he
      have := ih (fun x hx => he x (List.mem_cons_of_mem _ hx))
      have := he e (by simp)
      simp only [List.map_cons, List.flatten_cons, List.length_append, List.length_cons]
      omega
  refine this es (fun e he => ?_)
  rcases Nat.eq_zero_or_pos e.2.length with h0 | h0
  · have hk := h.kraft e he
    rw [List.eq_nil_of_length_eq_zero h0] at hk
    simp at hk
  · exact h0
end Go.Proofs.Ytdidahafbcddeaa

/-
  What pair.Play and quipuref.Pair keep, over any kind of array of discs. Plain words.
-/
import Derived.Test.YtbhhijdpmpcdnaaShst
import Derived.Test.YtbhhijdpmpcdnaaAru
set_option linter.unusedVariables false
namespace Go.Proofs.Ytbhhijdpmpcdnaa

/-- a move's answer: the array behind it, its code, its value -/
structure AnsG (α : Type) where
  a : α
  e : Nat
  v : Nat
structure PrT (α : Type) where
  outs : List (Nat × Nat)
  ws : List StS
  s : Nat
  g : Nat
  p : Nat
  k : Nat
  a0 : α
  a1 : α
  main : Nat
  told : Nat
section
variable {α β : Type} (mv : α → Int → Int → Nat → AnsG α)
/-- these writes, one after the other -/
def putW (a : α) : List StS → α
  | [] => a
  | x :: r => putW (mv a 1 x.block x.val).a r
def tellG (mode : Nat) (t : PrT α) : Nat := if mode = 1 then t.ws.length else t.k
/-- which move a step at a site is -/
def atK (kind : Int) : Int := if kind = 7 then 3 else if kind = 8 then 4 else 2
/-- how many places a step at a site has -/
def manyG (d : Nat) (kind : Int) : Int := if kind = 9 then 24 else (d : Int)
def wrG (t : PrT α) (x : StS) : PrT α :=
  if x.block < 0 ∨ 24 ≤ x.block then { t with outs := t.outs ++ [(2, 0)] }
  else if t.main = 0 then { t with outs := t.outs ++ [(0, 0)], a0 := (mv t.a0 1 x.block x.val).a, ws := t.ws ++ [x] }
  else { t with outs := t.outs ++ [(0, 0)], a1 := (mv t.a1 1 x.block x.val).a }
def chG (mode : Nat) (t : PrT α) : PrT α :=
  if t.main = 1 then { t with outs := t.outs ++ [(7, 0)] }
  else { t with outs := t.outs ++ [(0, 0)], told := tellG mode t, a1 := putW mv t.a1 ((t.ws.take t.g).drop t.p), p := t.g, main := 1 }
def atG (d : Nat) (t : PrT α) (x : StS) : PrT α :=
  if x.site < t.main ∨ 1 < x.site ∨ x.block < 0 ∨ manyG d x.kind ≤ x.block then { t with outs := t.outs ++ [(2, 0)] }
  else if x.site = 0 then { t with outs := t.outs ++ [((mv t.a0 (atK x.kind) x.block 0).e, (mv t.a0 (atK x.kind) x.block 0).v)], a0 := (mv t.a0 (atK x.kind) x.block 0).a }
  else { t with outs := t.outs ++ [((mv t.a1 (atK x.kind) x.block 0).e, (mv t.a1 (atK x.kind) x.block 0).v)], a1 := (mv t.a1 (atK x.kind) x.block 0).a }
def lnG (mode : Nat) (t : PrT α) (x : StS) : PrT α :=
  if t.main = 1 then { t with outs := t.outs ++ [(7, 0)] }
  else { t with outs := t.outs ++ [((doS t.ws.length mode t.s t.g t.p t.k x.kind).e, 0)], s := (doS t.ws.length mode t.s t.g t.p t.k x.kind).s, g := (doS t.ws.length mode t.s t.g t.p t.k x.kind).g, p := (doS t.ws.length mode t.s t.g t.p t.k x.kind).p, k := (doS t.ws.length mode t.s t.g t.p t.k x.kind).k, a1 := putW mv t.a1 ((t.ws.take (doS t.ws.length mode t.s t.g t.p t.k x.kind).p).drop t.p) }
/-- one step -/
def stepG (mode d : Nat) (t : PrT α) (x : StS) : PrT α :=
  if x.kind < 1 ∨ 10 < x.kind then { t with outs := t.outs ++ [(6, 0)] }
  else if x.kind = 1 then wrG mv t x
  else if x.kind = 10 then chG mv mode t
  else if 7 ≤ x.kind then atG mv d t x
  else lnG mv mode t x
def playG (mode d : Nat) (a : α) (l : List StS) : Nat → PrT α
  | 0 => ⟨[], [], 0, 0, 0, 0, a, a, 0, 0⟩
  | k + 1 => match l[k]? with
    | none => playG mode d a l k
    | some x => stepG mv mode d (playG mode d a l k) x
theorem playG_next {mode d : Nat} {a : α} {l : List StS} {k : Nat} {x : StS} (h : l[k]? = some x) : playG mv mode d a l (k + 1) = stepG mv mode d (playG mv mode d a l k) x := by rw [playG, h]
/-- what holds at each time -/
structure PrOk (t : PrT α) (n : Nat) : Prop where
  le1 : t.p ≤ t.g
  le2 : t.g ≤ t.s
  le3 : t.s ≤ t.ws.length
  le4 : t.ws.length ≤ n
  le5 : t.k ≤ t.g
  ol : t.outs.length = n
  wb : ∀ x ∈ t.ws, 0 ≤ x.block ∧ x.block < 24 ∧ x.val < 256
  mn : t.main = 0 ∨ t.main = 1
  td : t.told ≤ n
theorem PrOk.start (a : α) : PrOk (⟨[], [], 0, 0, 0, 0, a, a, 0, 0⟩ : PrT α) 0 := ⟨Nat.le_refl _, Nat.le_refl _, Nat.le_refl _, Nat.le_refl _, Nat.le_refl _, rfl, by simp, .inl rfl, Nat.le_refl _⟩
theorem PrOk.step {t : PrT α} {n : Nat} (h : PrOk t n) (mode d : Nat) (x : StS) (hx : x.val < 256) : PrOk (stepG mv mode d t x) (n + 1) := by
  have q1 := h.le1
  have q2 := h.le2
  have q3 := h.le3
  have q4 := h.le4
  have q5 := h.le5
  have q6 := h.ol
  have q8 := h.td
  have ho : ∀ o : Nat × Nat, (t.outs ++ [o]).length = n + 1 := fun o => by simp [q6]
  unfold stepG
  split
  · exact ⟨q1, q2, q3, Nat.le_succ_of_le q4, q5, ho _, h.wb, h.mn, Nat.le_succ_of_le q8⟩
  split
  · unfold wrG
    split
    · exact ⟨q1, q2, q3, Nat.le_succ_of_le q4, q5, ho _, h.wb, h.mn, Nat.le_succ_of_le q8⟩
    split
    · refine ⟨q1, q2, ?_, ?_, q5, ho _, ?_, h.mn, Nat.le_succ_of_le q8⟩
      · simp; omega
      · simp; omega
      · intro y hy
        rcases List.mem_append.1 hy with hy | hy
        · exact h.wb y hy
        · rw [List.mem_singleton.1 hy]; exact ⟨by omega, by omega, hx⟩
    · exact ⟨q1, q2, q3, Nat.le_succ_of_le q4, q5, ho _, h.wb, h.mn, Nat.le_succ_of_le q8⟩
  split
  · unfold chG
    split
    · exact ⟨q1, q2, q3, Nat.le_succ_of_le q4, q5, ho _, h.wb, h.mn, Nat.le_succ_of_le q8⟩
    · refine ⟨Nat.le_refl _, q2, q3, Nat.le_succ_of_le q4, q5, ho _, h.wb, .inr rfl, ?_⟩
      show tellG mode t ≤ n + 1
      unfold tellG
      split <;> omega
  split
  · unfold atG
    split
    · exact ⟨q1, q2, q3, Nat.le_succ_of_le q4, q5, ho _, h.wb, h.mn, Nat.le_succ_of_le q8⟩
    split
    · exact ⟨q1, q2, q3, Nat.le_succ_of_le q4, q5, ho _, h.wb, h.mn, Nat.le_succ_of_le q8⟩
    · exact ⟨q1, q2, q3, Nat.le_succ_of_le q4, q5, ho _, h.wb, h.mn, Nat.le_succ_of_le q8⟩
  · unfold lnG
    split
    · exact ⟨q1, q2, q3, Nat.le_succ_of_le q4, q5, ho _, h.wb, h.mn, Nat.le_succ_of_le q8⟩
    · obtain ⟨a, b, c, e⟩ := doS_ok (mode := mode) x.kind h.le1 h.le2 h.le3 h.le5
      exact ⟨a, b, c, Nat.le_succ_of_le q4, e, ho _, h.wb, h.mn, Nat.le_succ_of_le q8⟩
theorem PrOk.play {l : List StS} (hl : ∀ x ∈ l, x.val < 256) (mode d : Nat) (a : α) : ∀ k, k ≤ l.length → PrOk (playG mv mode d a l k) k
  | 0, _ => PrOk.start a
  | k + 1, hk => by
    have hx : l[k]? = some l[k] := List.getElem?_eq_getElem (by omega)
    rw [playG_next mv hx]
    exact (PrOk.play hl mode d a k (by omega)).step mv mode d _ (hl _ (List.mem_of_getElem? hx))
end
/-- two kinds of arrays that tell the same -/
structure SimG {α β : Type} (R : α → β → Prop) (mv : α → Int → Int → Nat → AnsG α) (mv' : β → Int → Int → Nat → AnsG β) : Prop where
  e : ∀ {a b}, R a b → ∀ kind block v, (mv a kind block v).e = (mv' b kind block v).e
  v : ∀ {a b}, R a b → ∀ kind block v, (mv a kind block v).v = (mv' b kind block v).v
  a : ∀ {a b}, R a b → ∀ kind block v, R (mv a kind block v).a (mv' b kind block v).a
structure SameG {α β : Type} (R : α → β → Prop) (t : PrT α) (u : PrT β) : Prop where
  outs : t.outs = u.outs
  ws : t.ws = u.ws
  s : t.s = u.s
  g : t.g = u.g
  p : t.p = u.p
  k : t.k = u.k
  a0 : R t.a0 u.a0
  a1 : R t.a1 u.a1
  main : t.main = u.main
  told : t.told = u.told
section
variable {α β : Type} {R : α → β → Prop} {mv : α → Int → Int → Nat → AnsG α} {mv' : β → Int → Int → Nat → AnsG β}
theorem SimG.putW (h : SimG R mv mv') : ∀ (l : List StS) {a : α} {b : β}, R a b → R (putW mv a l) (putW mv' b l)
  | [], _, _, hr => hr
  | x :: r, _, _, hr => SimG.putW h r (h.a hr 1 x.block x.val)
theorem SameG.step (h : SimG R mv mv') {t : PrT α} {u : PrT β} (hs : SameG R t u) (mode d : Nat) (x : StS) : SameG R (stepG mv mode d t x) (stepG mv' mode d u x) := by
  obtain ⟨o, ws, s, g, p, k, a0, a1, m, td⟩ := t
  obtain ⟨o', ws', s', g', p', k', a0', a1', m', td'⟩ := u
  obtain ⟨h1, h2, h3, h4, h5, h6, h7, h8, h9, h10⟩ := hs
  simp only at h1 h2 h3 h4 h5 h6 h7 h8 h9 h10
  subst h1 h2 h3 h4 h5 h6 h9 h10
  unfold stepG
  split
  · exact ⟨rfl, rfl, rfl, rfl, rfl, rfl, h7, h8, rfl, rfl⟩
  split
  · unfold wrG
    simp only
    split
    · exact ⟨rfl, rfl, rfl, rfl, rfl, rfl, h7, h8, rfl, rfl⟩
    split
    · exact ⟨rfl, rfl, rfl, rfl, rfl, rfl, h.a h7 _ _ _, h8, rfl, rfl⟩
    · exact ⟨rfl, rfl, rfl, rfl, rfl, rfl, h7, h.a h8 _ _ _, rfl, rfl⟩
  split
  · unfold chG
    simp only
    split
    · exact ⟨rfl, rfl, rfl, rfl, rfl, rfl, h7, h8, rfl, rfl⟩
    · exact ⟨rfl, rfl, rfl, rfl, rfl, rfl, h7, h.putW _ h8, rfl, rfl⟩
  split
  · unfold atG
    simp only
    split
    · exact ⟨rfl, rfl, rfl, rfl, rfl, rfl, h7, h8, rfl, rfl⟩
    split
    · exact ⟨by simp only [h.e h7, h.v h7], rfl, rfl, rfl, rfl, rfl, h.a h7 _ _ _, h8, rfl, rfl⟩
    · exact ⟨by simp only [h.e h8, h.v h8], rfl, rfl, rfl, rfl, rfl, h7, h.a h8 _ _ _, rfl, rfl⟩
  · unfold lnG
    simp only
    split
    · exact ⟨rfl, rfl, rfl, rfl, rfl, rfl, h7, h8, rfl, rfl⟩
    · exact ⟨rfl, rfl, rfl, rfl, rfl, rfl, h7, h.putW _ h8, rfl, rfl⟩
theorem SameG.play (h : SimG R mv mv') {a : α} {b : β} (hab : R a b) (mode d : Nat) (l : List StS) : ∀ k, SameG R (playG mv mode d a l k) (playG mv' mode d b l k)
  | 0 => ⟨rfl, rfl, rfl, rfl, rfl, rfl, hab, hab, rfl, rfl⟩
  | k + 1 => by
    cases hx : l[k]? with
    | none => rw [playG, playG, hx]; exact SameG.play h hab mode d l k
    | some x => rw [playG_next mv hx, playG_next mv' hx]; exact (SameG.play h hab mode d l k).step h mode d x
end
/-- the program's discs -/
def mvP (d : Nat) (a : (Nat → Nat → Nat) × Int) (kind block : Int) (v : Nat) : AnsG ((Nat → Nat → Nat) × Int) := ⟨((doMv d a.1 a.2 kind block v).f, (doMv d a.1 a.2 kind block v).z), (doMv d a.1 a.2 kind block v).e, (doMv d a.1 a.2 kind block v).v⟩
/-- the reference's blocks -/
def mvB (d : Nat) (a : List Nat × Int) (kind block : Int) (v : Nat) : AnsG (List Nat × Int) := ⟨((mvR d a.1 a.2 kind block v).bl, (mvR d a.1 a.2 kind block v).z), (mvR d a.1 a.2 kind block v).e, (mvR d a.1 a.2 kind block v).v⟩
def RelP (d : Nat) (a : (Nat → Nat → Nat) × Int) (b : List Nat × Int) : Prop := a.2 = b.2 ∧ ∃ T, SimD d a.1 a.2 b.1 T
theorem simP {d : Nat} (h3 : 3 ≤ d) (h6 : d ≤ 6) : SimG (RelP d) (mvP d) (mvB d) := by
  constructor
  · rintro ⟨f, z⟩ ⟨bl, z'⟩ ⟨h1, T, h2⟩ kind block v
    simp only at h1
    subst h1
    exact (sim_step h2 h3 h6 kind block v).2.1
  · rintro ⟨f, z⟩ ⟨bl, z'⟩ ⟨h1, T, h2⟩ kind block v
    simp only at h1
    subst h1
    exact (sim_step h2 h3 h6 kind block v).1
  · rintro ⟨f, z⟩ ⟨bl, z'⟩ ⟨h1, T, h2⟩ kind block v
    simp only at h1
    subst h1
    exact ⟨(sim_step h2 h3 h6 kind block v).2.2.1, (sim_step h2 h3 h6 kind block v).2.2.2⟩
def startP : (Nat → Nat → Nat) × Int := (fun _ _ => 0, -1)
def startB : List Nat × Int := (List.replicate 24 0, -1)
theorem pair_same {d : Nat} (h3 : 3 ≤ d) (h6 : d ≤ 6) (mode : Nat) (l : List StS) (k : Nat) : SameG (RelP d) (playG (mvP d) mode d startP l k) (playG (mvB d) mode d startB l k) :=
  SameG.play (simP h3 h6) ⟨rfl, _, SimD.start d⟩ mode d l k
end Go.Proofs.Ytbhhijdpmpcdnaa

/-
  TopDiscs: the plain law.
-/
import Derived.Test.YtbhhijdpmpcdnaaPtr
set_option linter.unusedVariables false
namespace Go.Proofs.Ytbhhijdpmpcdnaa

/-- neither lost nor renewed -/
def keepS (x : StS) : Bool := decide (x.kind ≠ 7 ∧ x.kind ≠ 8)
def flS (l : List StS) : Nat → List StS
  | 0 => []
  | k + 1 => match l[k]? with
    | none => flS l k
    | some x => if keepS x then flS l k ++ [x] else flS l k
def wnS (l : List StS) (O : List (Nat × Nat)) : Nat → List (Nat × Nat)
  | 0 => []
  | k + 1 => match l[k]? with
    | none => wnS l O k
    | some x => if keepS x then wnS l O k ++ [O.getD k (0, 0)] else wnS l O k
theorem flS_next {l : List StS} {k : Nat} {x : StS} (h : l[k]? = some x) : flS l (k + 1) = if keepS x then flS l k ++ [x] else flS l k := by rw [flS, h]
theorem wnS_next {l : List StS} {O : List (Nat × Nat)} {k : Nat} {x : StS} (h : l[k]? = some x) : wnS l O (k + 1) = if keepS x then wnS l O k ++ [O.getD k (0, 0)] else wnS l O k := by rw [wnS, h]
theorem flS_len (l : List StS) : ∀ k, (flS l k).length ≤ k
  | 0 => by simp [flS]
  | k + 1 => by
    have := flS_len l k
    rw [flS]
    split
    · omega
    · split
      · simp; omega
      · omega
theorem flS_mem {l : List StS} : ∀ k, ∀ x ∈ flS l k, x ∈ l
  | 0, x, h => by simp [flS] at h
  | k + 1, x, h => by
    rw [flS] at h
    split at h
    · exact flS_mem k x h
    · rename_i y hy
      split at h
      · rcases List.mem_append.1 h with h | h
        · exact flS_mem k x h
        · rw [List.mem_singleton.1 h]; exact List.mem_of_getElem? hy
      · exact flS_mem k x h
theorem wnS_len (l : List StS) (O : List (Nat × Nat)) : ∀ k, (wnS l O k).length = (flS l k).length
  | 0 => rfl
  | k + 1 => by
    have := wnS_len l O k
    rw [flS, wnS]
    cases l[k]? with
    | none => exact this
    | some x =>
      simp only
      split
      · simp [this]
      · exact this
/-- the same but for what is told and which discs are lost -/
structure RelZ (u w : PrT ArB) : Prop where
  ws : w.ws = u.ws
  s : w.s = u.s
  g : w.g = u.g
  p : w.p = u.p
  k : w.k = u.k
  a0 : w.a0.1 = u.a0.1
  a1 : w.a1.1 = u.a1.1
  main : w.main = u.main
  told : w.told = u.told
theorem mvB_one {d : Nat} {a b : ArB} (h : a.1 = b.1) (block : Int) (v : Nat) : (mvB d a 1 block v).a.1 = (mvB d b 1 block v).a.1 := by
  obtain ⟨bl, z⟩ := a
  obtain ⟨bl', z'⟩ := b
  simp only at h
  subst h
  show (mvR d bl z 1 block v).bl = (mvR d bl z' 1 block v).bl
  unfold mvR
  simp only [if_neg (show ¬ ((1 : Int) < 1 ∨ 4 < (1 : Int)) by omega)]
  by_cases hb : block < 0 ∨ (if (1 : Int) = 3 ∨ (1 : Int) = 4 then (d : Int) else 24) ≤ block
  · simp only [if_pos hb]
  · simp only [if_neg hb]; simp
theorem mvB_two {d : Nat} {a b : ArB} (h : a.1 = b.1) (block : Int) (v : Nat) : (mvB d a 2 block v).a.1 = (mvB d b 2 block v).a.1 ∧ (mvB d a 2 block v).e = (mvB d b 2 block v).e ∧ (mvB d a 2 block v).v = (mvB d b 2 block v).v := by
  obtain ⟨bl, z⟩ := a
  obtain ⟨bl', z'⟩ := b
  simp only at h
  subst h
  show (mvR d bl z 2 block v).bl = (mvR d bl z' 2 block v).bl ∧ (mvR d bl z 2 block v).e = (mvR d bl z' 2 block v).e ∧ (mvR d bl z 2 block v).v = (mvR d bl z' 2 block v).v
  unfold mvR
  simp only [if_neg (show ¬ ((2 : Int) < 1 ∨ 4 < (2 : Int)) by omega)]
  by_cases hb : block < 0 ∨ (if (2 : Int) = 3 ∨ (2 : Int) = 4 then (d : Int) else 24) ≤ block
  · simp only [if_pos hb]; exact ⟨trivial, trivial, trivial⟩
  · simp only [if_neg hb]; simp
theorem putW_one {d : Nat} : ∀ (l : List StS) {a b : ArB}, a.1 = b.1 → (putW (mvB d) a l).1 = (putW (mvB d) b l).1
  | [], _, _, h => h
  | x :: r, _, _, h => putW_one r (mvB_one h x.block x.val)
theorem relZ_keep (mode d : Nat) {u w : PrT ArB} (h : RelZ u w) (x : StS) (hx : keepS x = true) :
    RelZ (stepG (mvB d) mode d u x) (stepG (mvB d) mode d w x) ∧ ∃ o, (stepG (mvB d) mode d u x).outs = u.outs ++ [o] ∧ (stepG (mvB d) mode d w x).outs = w.outs ++ [o] := by
  obtain ⟨o, ws, s, g, p, k, a0, a1, m, td⟩ := u
  obtain ⟨o', ws', s', g', p', k', a0', a1', m', td'⟩ := w
  obtain ⟨h2, h3, h4, h5, h6, h7, h8, h9, h10⟩ := h
  simp only at h2 h3 h4 h5 h6 h7 h8 h9 h10
  subst h2 h3 h4 h5 h6 h9 h10
  have hk : x.kind ≠ 7 ∧ x.kind ≠ 8 := by simpa [keepS] using hx
  unfold stepG
  split
  · exact ⟨⟨rfl, rfl, rfl, rfl, rfl, h7, h8, rfl, rfl⟩, _, rfl, rfl⟩
  split
  · unfold wrG
    simp only
    split
    · exact ⟨⟨rfl, rfl, rfl, rfl, rfl, h7, h8, rfl, rfl⟩, _, rfl, rfl⟩
    split
    · exact ⟨⟨rfl, rfl, rfl, rfl, rfl, mvB_one h7 _ _, h8, rfl, rfl⟩, _, rfl, rfl⟩
    · exact ⟨⟨rfl, rfl, rfl, rfl, rfl, h7, mvB_one h8 _ _, rfl, rfl⟩, _, rfl, rfl⟩
  split
  · unfold chG
    simp only
    split
    · exact ⟨⟨rfl, rfl, rfl, rfl, rfl, h7, h8, rfl, rfl⟩, _, rfl, rfl⟩
    · exact ⟨⟨rfl, rfl, rfl, rfl, rfl, h7, putW_one _ h8, rfl, rfl⟩, _, rfl, rfl⟩
  split
  · have e2 : atK x.kind = 2 := by unfold atK; rw [if_neg hk.1, if_neg hk.2]
    unfold atG
    simp only
    split
    · exact ⟨⟨rfl, rfl, rfl, rfl, rfl, h7, h8, rfl, rfl⟩, _, rfl, rfl⟩
    split
    · obtain ⟨q1, q2, q3⟩ := mvB_two (d := d) h7 x.block 0
      rw [e2]
      exact ⟨⟨rfl, rfl, rfl, rfl, rfl, q1, h8, rfl, rfl⟩, _, rfl, by simp only [q2, q3]⟩
    · obtain ⟨q1, q2, q3⟩ := mvB_two (d := d) h8 x.block 0
      rw [e2]
      exact ⟨⟨rfl, rfl, rfl, rfl, rfl, h7, q1, rfl, rfl⟩, _, rfl, by simp only [q2, q3]⟩
  · unfold lnG
    simp only
    split
    · exact ⟨⟨rfl, rfl, rfl, rfl, rfl, h7, h8, rfl, rfl⟩, _, rfl, rfl⟩
    · exact ⟨⟨rfl, rfl, rfl, rfl, rfl, h7, putW_one _ h8, rfl, rfl⟩, _, rfl, rfl⟩
theorem relZ_drop (mode d : Nat) {u w : PrT ArB} (h : RelZ u w) (x : StS) (hx : keepS x = false) : RelZ (stepG (mvB d) mode d u x) w := by
  have hk : x.kind = 7 ∨ x.kind = 8 := by
    have : ¬ (x.kind ≠ 7 ∧ x.kind ≠ 8) := by simpa [keepS] using hx
    omega
  rw [show stepG (mvB d) mode d u x = atG (mvB d) d u x by unfold stepG; rw [if_neg (by omega), if_neg (by omega), if_neg (by omega), if_pos (by omega)]]
  have hk1 : atK x.kind ≠ 1 := by
    unfold atK
    rcases hk with e | e
    · rw [if_pos e]; decide
    · rw [e]; decide
  unfold atG
  split
  · exact ⟨h.ws, h.s, h.g, h.p, h.k, h.a0, h.a1, h.main, h.told⟩
  split
  · exact ⟨h.ws, h.s, h.g, h.p, h.k, h.a0.trans (mvB_bl d u.a0 _ _ 0 hk1).symm, h.a1, h.main, h.told⟩
  · exact ⟨h.ws, h.s, h.g, h.p, h.k, h.a0, h.a1.trans (mvB_bl d u.a1 _ _ 0 hk1).symm, h.main, h.told⟩
theorem playG_app {α : Type} (mv : α → Int → Int → Nat → AnsG α) (mode d : Nat) (a : α) (l r : List StS) : ∀ j, j ≤ l.length → playG mv mode d a (l ++ r) j = playG mv mode d a l j
  | 0, _ => rfl
  | j + 1, h => by
    rw [playG, playG, List.getElem?_append_left (by omega), playG_app mv mode d a l r j (by omega)]
theorem relZ_play (mode d : Nat) {l : List StS} (hl : ∀ m ∈ l, m.val < 256) (O : List (Nat × Nat)) (hO : (playG (mvB d) mode d startB l l.length).outs = O) : ∀ k, k ≤ l.length →
    RelZ (playG (mvB d) mode d startB l k) (playG (mvB d) mode d startB (flS l k) (flS l k).length) ∧ (playG (mvB d) mode d startB (flS l k) (flS l k).length).outs = wnS l O k
  | 0, _ => ⟨⟨rfl, rfl, rfl, rfl, rfl, rfl, rfl, rfl, rfl⟩, rfl⟩
  | k + 1, hk => by
    obtain ⟨ih1, ih2⟩ := relZ_play mode d hl O hO k (by omega)
    have hx : l[k]? = some l[k] := List.getElem?_eq_getElem (by omega)
    rw [flS_next hx, wnS_next hx, playG_next (mvB d) hx]
    cases hkp : keepS l[k] with
    | false => simp only [Bool.false_eq_true, if_false]; exact ⟨relZ_drop mode d ih1 _ hkp, ih2⟩
    | true =>
      simp only [if_true]
      obtain ⟨r1, o, o1, o2⟩ := relZ_keep mode d ih1 _ hkp
      rw [List.length_append, List.length_singleton, playG_next (mvB d) (show (flS l k ++ [l[k]])[(flS l k).length]? = some l[k] by simp), playG_app _ _ _ _ _ _ _ (Nat.le_refl _)]
      refine ⟨r1, ?_⟩
      rw [o2, ih2]
      rw [← playG_next (mvB d) hx] at o1
      obtain ⟨e, v⟩ := o
      have := out_at hl hx o1
      rw [hO] at this
      rw [List.getD, this]
      rfl
theorem told_same {mode : Nat} {u w : PrT ArB} (h : RelZ u w) : toldF mode w = toldF mode u := by
  unfold toldF tellG
  rw [h.main, h.ws, h.k, h.told]
end Go.Proofs.Ytbhhijdpmpcdnaa

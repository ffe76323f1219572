/-
  TopSwitch: the plain law.
-/
import Derived.Test.YtbhhijdpmpcdnaaPtr
import Derived.Test.YtbhhijdpmpcdnaaPrh
set_option linter.unusedVariables false
namespace Go.Proofs.Ytbhhijdpmpcdnaa

/-- what the law plays: the script, a switch and a read; then for each byte a write and a read -/
def swS (block : Int) : List StS := [⟨10, 0, 0, 0⟩, ⟨9, 1, block, 0⟩]
def moS (block : Int) (b : Nat) : List StS := [⟨1, 0, block, b⟩, ⟨9, 1, block, 0⟩]
def moreS (block : Int) (more : List Nat) : List StS := (more.map (moS block)).flatten
def allS (l : List StS) (block : Int) (more : List Nat) : List StS := l ++ swS block ++ moreS block more
theorem moreS_len (block : Int) : ∀ more : List Nat, (moreS block more).length = 2 * more.length
  | [] => rfl
  | b :: r => by
    have ih := moreS_len block r
    unfold moreS at ih ⊢
    rw [List.map_cons, List.flatten_cons, List.length_append, ih, List.length_cons]
    simp [moS]; omega
theorem allS_len (l : List StS) (block : Int) (more : List Nat) : (allS l block more).length = l.length + 2 + 2 * more.length := by
  simp [allS, moreS_len, swS]; omega
theorem allS_snoc (l : List StS) (block : Int) (more : List Nat) (b : Nat) : allS l block (more ++ [b]) = allS l block more ++ moS block b := by
  simp [allS, moreS]
theorem allS_val {l : List StS} (h : ∀ x ∈ l, x.val < 256) (block : Int) {more : List Nat} (hm : ∀ b ∈ more, b < 256) : ∀ x ∈ allS l block more, x.val < 256 := by
  intro x hx
  unfold allS at hx
  rcases List.mem_append.1 hx with hx | hx
  · rcases List.mem_append.1 hx with hx | hx
    · exact h x hx
    · simp only [swS, List.mem_cons, List.not_mem_nil, or_false] at hx
      rcases hx with rfl | rfl <;> simp
  · unfold moreS at hx
    obtain ⟨y, hy, hx⟩ := List.mem_flatten.1 hx
    obtain ⟨b, hb, rfl⟩ := List.mem_map.1 hy
    simp only [moS, List.mem_cons, List.not_mem_nil, or_false] at hx
    rcases hx with rfl | rfl
    · exact hm b hb
    · simp
theorem moreS_at (block : Int) : ∀ (more : List Nat) (k b : Nat), more[k]? = some b → (moreS block more)[2 * k]? = some ⟨1, 0, block, b⟩ ∧ (moreS block more)[2 * k + 1]? = some ⟨9, 1, block, 0⟩
  | [], k, b, h => by simp at h
  | c :: r, 0, b, h => by
    simp at h
    subst h
    simp [moreS, moS]
  | c :: r, k + 1, b, h => by
    obtain ⟨h1, h2⟩ := moreS_at block r k b (by simpa using h)
    have e : moreS block (c :: r) = moS block c ++ moreS block r := by simp [moreS]
    rw [e, List.getElem?_append_right (by simp [moS]; omega), List.getElem?_append_right (by simp [moS]; omega)]
    exact ⟨by rw [← h1]; congr 1, by rw [← h2]; congr 1⟩
theorem allS_old {l : List StS} (block : Int) (more : List Nat) {k : Nat} (hk : k < l.length) : (allS l block more)[k]? = l[k]? := by
  unfold allS
  rw [List.append_assoc, List.getElem?_append_left hk]
theorem allS_sw (l : List StS) (block : Int) (more : List Nat) : (allS l block more)[l.length]? = some ⟨10, 0, 0, 0⟩ ∧ (allS l block more)[l.length + 1]? = some ⟨9, 1, block, 0⟩ := by
  unfold allS
  rw [List.append_assoc]
  constructor
  · rw [List.getElem?_append_right (Nat.le_refl _), Nat.sub_self]
    rfl
  · rw [List.getElem?_append_right (by omega), show l.length + 1 - l.length = 1 by omega]
    rfl
theorem allS_mo (l : List StS) (block : Int) {more : List Nat} {k b : Nat} (h : more[k]? = some b) : (allS l block more)[l.length + 2 + 2 * k]? = some ⟨1, 0, block, b⟩ ∧ (allS l block more)[l.length + 3 + 2 * k]? = some ⟨9, 1, block, 0⟩ := by
  obtain ⟨h1, h2⟩ := moreS_at block more k b h
  unfold allS
  have e : (l ++ swS block).length = l.length + 2 := by simp [swS]
  rw [List.getElem?_append_right (by rw [e]; omega), List.getElem?_append_right (by rw [e]; omega), e]
  exact ⟨by rw [← h1]; congr 1; omega, by rw [← h2]; congr 1; omega⟩

/-- the blocks behind some writes -/
def bputs : List Nat → List StS → List Nat
  | bl, [] => bl
  | bl, x :: r => bputs (bl.set x.block.toNat x.val) r
theorem bputs_app : ∀ (l l' : List StS) (bl : List Nat), bputs bl (l ++ l') = bputs (bputs bl l) l'
  | [], _, _ => rfl
  | x :: r, l', bl => bputs_app r l' _
theorem bputs_len : ∀ (l : List StS) (bl : List Nat), (bputs bl l).length = bl.length
  | [], _ => rfl
  | x :: r, bl => by rw [bputs, bputs_len r]; simp
def InB (x : StS) : Prop := 0 ≤ x.block ∧ x.block < 24
theorem mvB_bl1 {d : Nat} (a : ArB) {x : StS} (h : InB x) : (mvB d a 1 x.block x.val).a = (a.1.set x.block.toNat x.val, a.2) := by
  obtain ⟨b, hb⟩ : ∃ b : Nat, x.block = (b : Int) := ⟨x.block.toNat, by have := h.1; omega⟩
  rw [hb, mvB_write a b x.val (by have := h.2; omega), Int.toNat_natCast]
theorem putW_bl {d : Nat} : ∀ (l : List StS) (a : ArB), (∀ x ∈ l, InB x) → (putW (mvB d) a l).1 = bputs a.1 l
  | [], _, _ => rfl
  | x :: r, a, h => by
    rw [putW, mvB_bl1 a (h x (by simp)), putW_bl r _ (fun y hy => h y (List.mem_cons_of_mem _ hy)), bputs]
/-- the last write to a block tells what it holds -/
theorem bputs_last (b : Nat) (hb : b < 24) : ∀ (l : List StS) (bl : List Nat), bl.length = 24 → (∀ x ∈ l, InB x) →
    (∃ (j : Nat) (x : StS), l[j]? = some x ∧ x.block = (b : Int) ∧ (bputs bl l).getD b 0 = x.val ∧ ∀ (j' : Nat) (y : StS), j < j' → l[j']? = some y → y.block ≠ (b : Int)) ∨ ((∀ x ∈ l, x.block ≠ (b : Int)) ∧ (bputs bl l).getD b 0 = bl.getD b 0)
  | [], bl, _, _ => .inr ⟨by simp, rfl⟩
  | x :: r, bl, h24, hi => by
    have hx := hi x (by simp)
    rcases bputs_last b hb r (bl.set x.block.toNat x.val) (by simpa using h24) (fun y hy => hi y (List.mem_cons_of_mem _ hy)) with ⟨j, y, h1, h2, h3, h4⟩ | ⟨h1, h2⟩
    · refine .inl ⟨j + 1, y, by simpa using h1, h2, h3, fun j' z hj hz => ?_⟩
      obtain ⟨i, rfl⟩ : ∃ i, j' = i + 1 := ⟨j' - 1, by omega⟩
      exact h4 i z (by omega) (by simpa using hz)
    · by_cases hxb : x.block = (b : Int)
      · refine .inl ⟨0, x, rfl, hxb, ?_, fun j' z hj hz => ?_⟩
        · rw [bputs, h2, hxb, Int.toNat_natCast, List.getD_eq_getElem?_getD, List.getElem?_set_self (by omega)]
          rfl
        · obtain ⟨i, rfl⟩ : ∃ i, j' = i + 1 := ⟨j' - 1, by omega⟩
          exact h1 z (List.mem_of_getElem? (by simpa using hz))
      · refine .inr ⟨fun y hy => ?_, ?_⟩
        · rcases List.mem_cons.1 hy with rfl | hy
          · exact hxb
          · exact h1 y hy
        · rw [bputs, h2, List.getD_eq_getElem?_getD, List.getD_eq_getElem?_getD, List.getElem?_set_ne (by have := hx.1; omega)]
theorem mvB_len (d : Nat) (a : ArB) (kind block : Int) (v : Nat) : (mvB d a kind block v).a.1.length = a.1.length := by
  by_cases h : kind = 1
  · subst h
    unfold mvB mvR
    repeat' split
    all_goals simp
  · rw [mvB_bl d a kind block v h]
theorem putW_lenB {d : Nat} : ∀ (l : List StS) (a : ArB), (putW (mvB d) a l).1.length = a.1.length
  | [], _ => rfl
  | x :: r, a => by rw [putW, putW_lenB r, mvB_len]
/-- what a step does besides -/
structure SwStep (d mode : Nat) (u u' : PrT ArB) (x : StS) : Prop where
  len : u.a1.1.length = 24 → u'.a1.1.length = 24
  told : u.main = 1 → u'.told = u.told
theorem sw_step (mode d : Nat) (u : PrT ArB) (x : StS) : SwStep d mode u (stepG (mvB d) mode d u x) x := by
  unfold stepG
  split
  · exact ⟨fun h => h, fun _ => rfl⟩
  split
  · unfold wrG; repeat' split
    all_goals exact ⟨fun h => by first | exact h | (simp only [mvB_len]; exact h), fun _ => rfl⟩
  split
  · unfold chG; split
    · exact ⟨fun h => h, fun _ => rfl⟩
    · exact ⟨fun h => by simp only [putW_lenB]; exact h, fun h => by contradiction⟩
  split
  · unfold atG; repeat' split
    all_goals exact ⟨fun h => by first | exact h | (simp only [mvB_len]; exact h), fun _ => rfl⟩
  · unfold lnG; split
    · exact ⟨fun h => h, fun _ => rfl⟩
    · exact ⟨fun h => by simp only [putW_lenB]; exact h, fun _ => rfl⟩
theorem play_len (mode d : Nat) (l : List StS) : ∀ k, (playG (mvB d) mode d startB l k).a1.1.length = 24
  | 0 => by simp [playG, startB]
  | k + 1 => by
    cases hx : l[k]? with
    | none => rw [playG, hx]; exact play_len mode d l k
    | some x => rw [playG_next _ hx]; exact (sw_step mode d _ x).len (play_len mode d l k)
theorem play_told (mode d : Nat) (l : List StS) (k : Nat) (h : (playG (mvB d) mode d startB l k).main = 1) : ∀ j, (playG (mvB d) mode d startB l (k + j)).told = (playG (mvB d) mode d startB l k).told
  | 0 => rfl
  | j + 1 => by
    have ih := play_told mode d l k h j
    cases hx : l[k + j]? with
    | none => rw [← Nat.add_assoc, playG, hx]; exact ih
    | some x => rw [← Nat.add_assoc, playG_next _ hx, (sw_step mode d _ x).told (play_main _ mode d startB l k h j), ih]
/-- while the first site is the main one -/
structure SwInv (t : PrT ArB) : Prop where
  bl : t.a1.1 = bputs (List.replicate 24 0) (t.ws.take t.p)
theorem wsIn {t : PrT ArB} {n : Nat} (h : PrOk t n) : ∀ x ∈ t.ws, InB x := fun x hx => ⟨(h.wb x hx).1, (h.wb x hx).2.1⟩
theorem sw_inv {mode d : Nat} {t : PrT ArB} {n : Nat} (x : StS) (hok : PrOk t n) (hm : (stepG (mvB d) mode d t x).main = 0) (h : SwInv t) : SwInv (stepG (mvB d) mode d t x) ∧ ∃ e v, (stepG (mvB d) mode d t x).outs = t.outs ++ [(e, v)] ∧ (x.kind = 1 → e = 0 → (stepG (mvB d) mode d t x).ws = t.ws ++ [x]) ∧ (¬ (x.kind = 1 ∧ e = 0) → (stepG (mvB d) mode d t x).ws = t.ws) := by
  have q1 := hok.le1; have q2 := hok.le2; have q3 := hok.le3
  have hm0 : t.main = 0 := by
    rcases hok.mn with h0 | h0
    · exact h0
    · rw [step_main (mvB d) mode d t x h0] at hm; omega
  by_cases k0 : x.kind < 1 ∨ 10 < x.kind
  · rw [show stepG (mvB d) mode d t x = { t with outs := t.outs ++ [(6, 0)] } by unfold stepG; rw [if_pos k0]]
    exact ⟨⟨h.bl⟩, 6, 0, rfl, fun _ e => by omega, fun _ => rfl⟩
  by_cases k1 : x.kind = 1
  · rw [show stepG (mvB d) mode d t x = wrG (mvB d) t x by unfold stepG; rw [if_neg k0, if_pos k1]]
    by_cases hb : x.block < 0 ∨ 24 ≤ x.block
    · rw [show wrG (mvB d) t x = { t with outs := t.outs ++ [(2, 0)] } by unfold wrG; rw [if_pos hb]]
      exact ⟨⟨h.bl⟩, 2, 0, rfl, fun _ e => by omega, fun _ => rfl⟩
    · rw [show wrG (mvB d) t x = { t with outs := t.outs ++ [(0, 0)], a0 := (mvB d t.a0 1 x.block x.val).a, ws := t.ws ++ [x] } by unfold wrG; rw [if_neg hb, if_pos hm0]]
      exact ⟨⟨by show t.a1.1 = bputs _ ((t.ws ++ [x]).take t.p); rw [List.take_append_of_le_length (by omega)]; exact h.bl⟩, 0, 0, rfl, fun _ _ => rfl, fun e => absurd ⟨k1, rfl⟩ e⟩
  by_cases k10 : x.kind = 10
  · rw [show stepG (mvB d) mode d t x = chG (mvB d) mode t by unfold stepG; rw [if_neg k0, if_neg k1, if_pos k10]] at hm
    unfold chG at hm
    rw [if_neg (by omega)] at hm
    exact absurd hm (by simp)
  by_cases k7 : 7 ≤ x.kind
  · rw [show stepG (mvB d) mode d t x = atG (mvB d) d t x by unfold stepG; rw [if_neg k0, if_neg k1, if_neg k10, if_pos k7]]
    have hk : atK x.kind ≠ 1 := by unfold atK; repeat' split
                                   all_goals decide
    by_cases hb : x.site < t.main ∨ 1 < x.site ∨ x.block < 0 ∨ manyG d x.kind ≤ x.block
    · rw [show atG (mvB d) d t x = { t with outs := t.outs ++ [(2, 0)] } by unfold atG; rw [if_pos hb]]
      exact ⟨⟨h.bl⟩, 2, 0, rfl, fun e => absurd e k1, fun _ => rfl⟩
    by_cases hs : x.site = 0
    · rw [show atG (mvB d) d t x = { t with outs := t.outs ++ [((mvB d t.a0 (atK x.kind) x.block 0).e, (mvB d t.a0 (atK x.kind) x.block 0).v)], a0 := (mvB d t.a0 (atK x.kind) x.block 0).a } by unfold atG; rw [if_neg hb, if_pos hs]]
      exact ⟨⟨h.bl⟩, _, _, rfl, fun e => absurd e k1, fun _ => rfl⟩
    · rw [show atG (mvB d) d t x = { t with outs := t.outs ++ [((mvB d t.a1 (atK x.kind) x.block 0).e, (mvB d t.a1 (atK x.kind) x.block 0).v)], a1 := (mvB d t.a1 (atK x.kind) x.block 0).a } by unfold atG; rw [if_neg hb, if_neg hs]]
      exact ⟨⟨by show (mvB d t.a1 (atK x.kind) x.block 0).a.1 = _; rw [mvB_bl d _ _ _ _ hk]; exact h.bl⟩, _, _, rfl, fun e => absurd e k1, fun _ => rfl⟩
  · rw [show stepG (mvB d) mode d t x = lnG (mvB d) mode t x by unfold stepG; rw [if_neg k0, if_neg k1, if_neg k10, if_neg k7]]
    unfold lnG
    rw [if_neg (by omega)]
    refine ⟨⟨?_⟩, _, _, rfl, fun e => absurd e k1, fun _ => rfl⟩
    obtain ⟨r1, r2, r3, -⟩ := doS_ok (mode := mode) x.kind hok.le1 hok.le2 hok.le3 hok.le5
    have r4 := doS_pz t.ws.length mode t.s t.g t.p t.k x.kind
    generalize doS t.ws.length mode t.s t.g t.p t.k x.kind = r at r1 r2 r3 r4 ⊢
    have r5 : t.p ≤ r.p := by rw [r4]; split <;> omega
    have hin : ∀ y ∈ (t.ws.take r.p).drop t.p, InB y := fun y hy => wsIn hok y (List.mem_of_mem_take (List.mem_of_mem_drop hy))
    show (putW (mvB d) t.a1 ((t.ws.take r.p).drop t.p)).1 = bputs _ (t.ws.take r.p)
    rw [putW_bl _ _ hin, h.bl, ← bputs_app]
    congr 1
    have e : (t.ws.take r.p).take t.p = t.ws.take t.p := by rw [List.take_take, Nat.min_eq_left r5]
    rw [← e, List.take_append_drop]
theorem main_mono {mode d : Nat} {l : List StS} {k n : Nat} (hkn : k ≤ n) (hm : (playG (mvB d) mode d startB l n).main = 0) (hok : ∀ j, j ≤ n → PrOk (playG (mvB d) mode d startB l j) j) : (playG (mvB d) mode d startB l k).main = 0 := by
  rcases (hok k hkn).mn with h | h
  · exact h
  · have := play_main (mvB d) mode d startB l k h (n - k)
    rw [show k + (n - k) = n by omega] at this
    omega
theorem sw_play {mode d : Nat} {l : List StS} {n : Nat} (hn : n ≤ l.length) (hm : (playG (mvB d) mode d startB l n).main = 0) (hok : ∀ j, j ≤ n → PrOk (playG (mvB d) mode d startB l j) j) : ∀ k, k ≤ n → SwInv (playG (mvB d) mode d startB l k)
  | 0, _ => ⟨rfl⟩
  | k + 1, hk => by
    have hx : l[k]? = some l[k] := List.getElem?_eq_getElem (by omega)
    have h1 := main_mono hk hm hok
    rw [playG_next _ hx] at h1 ⊢
    exact (sw_inv _ (hok k (by omega)) h1 (sw_play hn hm hok k (by omega))).1
/-- the law's first loop over the script: is the value read one that was written no earlier than what was told? -/
def OkP (ws : List StS) (b T V : Nat) (o : Bool) : Prop := ∀ j x, ws[j]? = some x → x.block = (b : Int) → x.val = V → (∀ j' y, j < j' → ws[j']? = some y → y.block = (b : Int) → T ≤ j') → o = true
/-- the second one: was none told? -/
def FiP (ws : List StS) (b T : Nat) (f : Bool) (q : Nat) : Prop := (∀ j x, j < T → ws[j]? = some x → x.block ≠ (b : Int)) → f = true ∧ q = 0
theorem OkP.start (b T V : Nat) : OkP [] b T V false := fun j x h => by simp at h
theorem FiP.start (b T : Nat) : FiP [] b T true 0 := fun _ => ⟨rfl, rfl⟩
theorem snoc_at {α : Type} {l : List α} {x y : α} {j : Nat} (h : (l ++ [x])[j]? = some y) : (j < l.length ∧ l[j]? = some y) ∨ (j = l.length ∧ y = x) := by
  rcases Nat.lt_trichotomy j l.length with h1 | h1 | h1
  · rw [List.getElem?_append_left h1] at h; exact .inl ⟨h1, h⟩
  · subst h1; simp at h; exact .inr ⟨rfl, h.symm⟩
  · rw [List.getElem?_eq_none (by simp; omega)] at h; cases h
theorem snoc_old {α : Type} {l : List α} {x y : α} {j : Nat} (h : l[j]? = some y) : (l ++ [x])[j]? = some y := by
  rw [List.getElem?_append_left (List.getElem?_eq_some_iff.1 h).1]; exact h
theorem OkP.other {ws : List StS} {b T V : Nat} {o : Bool} {x : StS} (h : OkP ws b T V o) (hx : x.block ≠ (b : Int)) : OkP (ws ++ [x]) b T V o := by
  intro j y h1 h2 h3 h4
  rcases snoc_at h1 with ⟨_, h5⟩ | ⟨_, rfl⟩
  · exact h j y h5 h2 h3 (fun j' z hj hz => h4 j' z hj (snoc_old hz))
  · exact absurd h2 hx
theorem OkP.hit {ws : List StS} {b T V : Nat} {o : Bool} {x : StS} (hx : x.val = V) : OkP (ws ++ [x]) b T V true := fun _ _ _ _ _ _ => rfl
theorem OkP.keep {ws : List StS} {b T V : Nat} {o : Bool} {x : StS} (h : OkP ws b T V o) (hx : x.val ≠ V) : OkP (ws ++ [x]) b T V o := by
  intro j y h1 h2 h3 h4
  rcases snoc_at h1 with ⟨_, h5⟩ | ⟨_, rfl⟩
  · exact h j y h5 h2 h3 (fun j' z hj hz => h4 j' z hj (snoc_old hz))
  · exact absurd h3 hx
theorem OkP.drop {ws : List StS} {b T V : Nat} {x : StS} (hb : x.block = (b : Int)) (hx : x.val ≠ V) (hT : ws.length + 1 ≤ T) : OkP (ws ++ [x]) b T V false := by
  intro j y h1 h2 h3 h4
  rcases snoc_at h1 with ⟨h6, h5⟩ | ⟨_, rfl⟩
  · have := h4 ws.length x h6 (by simp) hb; omega
  · exact absurd h3 hx
theorem FiP.other {ws : List StS} {b T q : Nat} {f : Bool} {x : StS} (h : FiP ws b T f q) : FiP (ws ++ [x]) b T f q := fun hj => h fun j y h1 h2 => hj j y h1 (snoc_old h2)
theorem FiP.told {ws : List StS} {b T q : Nat} {f : Bool} {x : StS} (hx : x.block = (b : Int)) (hT : ws.length + 1 ≤ T) (f' : Bool) (q' : Nat) : FiP (ws ++ [x]) b T f' q' := fun hj => absurd hx (hj ws.length x (by omega) (by simp))
/-- one of the two holds in the end -/
theorem sw_end {ws : List StS} {b T V g q : Nat} {o f : Bool} (hb : b < 24) (hin : ∀ x ∈ ws, InB x) (hV : (bputs (List.replicate 24 0) (ws.take g)).getD b 0 = V) (hT : T ≤ g) (ho : OkP ws b T V o) (hf : FiP ws b T f q) : o = true ∨ (o = false ∧ f = true ∧ q = 0 ∧ V = 0) := by
  rcases bputs_last b hb (ws.take g) (List.replicate 24 0) (by simp) (fun x hx => hin x (List.mem_of_mem_take hx)) with ⟨j, x, h1, h2, h3, h4⟩ | ⟨h1, h2⟩
  · refine .inl (ho j x ?_ h2 (by rw [← h3]; exact hV) (fun j' y hj hy hyb => ?_))
    · rw [List.getElem?_take] at h1
      split at h1
      · exact h1
      · cases h1
    · rcases Nat.lt_or_ge j' g with hg | hg
      · exact absurd hyb (h4 j' y hj (by rw [List.getElem?_take, if_pos hg]; exact hy))
      · omega
  · cases o with
    | true => exact .inl rfl
    | false =>
      obtain ⟨h5, h6⟩ := hf (fun j x hj hx => h1 x (List.mem_of_getElem? (i := j) (by rw [List.getElem?_take, if_pos (by omega)]; exact hx)))
      refine .inr ⟨rfl, h5, h6, ?_⟩
      rw [← hV, h2, List.getD_eq_getElem?_getD, List.getElem?_replicate]
      split <;> rfl
end Go.Proofs.Ytbhhijdpmpcdnaa

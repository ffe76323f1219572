/-
  The list of bytes whose last seen comes to the front, and what the reference counts: plain Lean.
-/
import Derived.Test.YtmepiiheidmbgaaBase
set_option linter.unusedVariables false
namespace Go.Proofs.Ytmepiiheidmbgaa

def mtf (l : List Nat) (b : Nat) : List Nat := b :: l.erase b
/-- the list of bytes behind a text -/
def stM (pre : List Nat) : List Nat := pre.foldl mtf (List.range 256)
def segM (pre : List Nat) (b : Nat) : List Nat := pre.reverse.takeWhile (· != b)
def befM (pre : List Nat) (b y : Nat) : Bool := decide (y ∈ segM pre b) || (decide (b ∉ pre) && decide (y < b))
def cntM (pre : List Nat) (b : Nat) : Nat := (List.range 256).countP (befM pre b)
theorem stM_snoc (pre : List Nat) (b : Nat) : stM (pre ++ [b]) = mtf (stM pre) b := by unfold stM; rw [List.foldl_append]; rfl
theorem segM_same (pre : List Nat) (b : Nat) : segM (pre ++ [b]) b = [] := by
  unfold segM; rw [List.reverse_append]; simp
theorem segM_other {pre : List Nat} {b z : Nat} (h : b ≠ z) : segM (pre ++ [b]) z = b :: segM pre z := by
  unfold segM; rw [List.reverse_append]; simp [h]
theorem segM_not {pre : List Nat} {b : Nat} (h : b ∉ pre) : segM pre b = pre.reverse := by
  unfold segM
  have : ∀ l : List Nat, b ∉ l → l.takeWhile (· != b) = l := by
    intro l
    induction l with
    | nil => intro _; rfl
    | cons a l ih =>
      intro h
      have h1 : a ≠ b := fun e => h (by subst e; exact List.mem_cons_self ..)
      rw [List.takeWhile_cons, if_pos (by simpa using h1), ih (fun h2 => h (List.mem_cons_of_mem _ h2))]
  exact this _ (fun h2 => h (List.mem_reverse.1 h2))
theorem idx_ne {a y : Nat} {l : List Nat} (h : a ≠ y) : (a :: l).idxOf y = l.idxOf y + 1 := by
  rw [List.idxOf_cons]
  have : (a == y) = false := by simpa using h
  rw [this]; rfl
/-- nothing twice, and each byte -/
structure MInv (l : List Nat) (pre : List Nat) : Prop where
  perm : l.Perm (List.range 256)
  ord : ∀ z y, z < 256 → y < 256 → (l.idxOf y < l.idxOf z ↔ befM pre z y = true)
theorem MInv.nodup {l pre : List Nat} (h : MInv l pre) : l.Nodup := h.perm.nodup_iff.2 List.nodup_range
theorem MInv.mem {l pre : List Nat} (h : MInv l pre) {b : Nat} (hb : b < 256) : b ∈ l := h.perm.mem_iff.2 (List.mem_range.2 hb)
theorem MInv.lt {l pre : List Nat} (h : MInv l pre) {b : Nat} (hb : b ∈ l) : b < 256 := List.mem_range.1 (h.perm.mem_iff.1 hb)
theorem MInv.len {l pre : List Nat} (h : MInv l pre) : l.length = 256 := by have := h.perm.length_eq; simpa using this
theorem idxOf_range {n x : Nat} (h : x < n) : (List.range n).idxOf x = x := by
  have h1 : (List.range n)[x]'(by simpa using h) = x := by simp
  have h2 := List.Nodup.idxOf_getElem (List.nodup_range (n := n)) x (by simpa using h)
  rw [h1] at h2; exact h2
theorem MInv.start : MInv (List.range 256) [] where
  perm := List.Perm.refl _
  ord z y hz hy := by rw [idxOf_range hz, idxOf_range hy]; simp [befM, segM]
theorem idxOf_mtf {l : List Nat} {b y : Nat} (hn : l.Nodup) (hy : y ∈ l) (hb : b ∈ l) (h : y ≠ b) : (mtf l b).idxOf y = if l.idxOf y < l.idxOf b then l.idxOf y + 1 else l.idxOf y := by
  unfold mtf
  rw [idx_ne (Ne.symm h)]
  induction l with
  | nil => cases hy
  | cons a l ih =>
    rw [List.nodup_cons] at hn
    by_cases e : a = b
    · subst e
      rw [List.erase_cons_head, List.idxOf_cons_self, if_neg (by omega), idx_ne (Ne.symm h)]
    · rw [List.erase_cons_tail (by simpa using e)]
      have hb' : b ∈ l := by cases hb with
        | head => exact absurd rfl e
        | tail _ h => exact h
      by_cases e2 : a = y
      · subst e2
        rw [List.idxOf_cons_self, List.idxOf_cons_self, idx_ne e, if_pos (by omega)]
      · have hy' : y ∈ l := by cases hy with
          | head => exact absurd rfl e2
          | tail _ h => exact h
        have := ih hn.2 hy' hb'
        rw [idx_ne e2, idx_ne e2, idx_ne e, this]
        by_cases c : l.idxOf y < l.idxOf b
        · rw [if_pos c, if_pos (by omega)]
        · rw [if_neg c, if_neg (by omega)]
theorem MInv.step {l pre : List Nat} (h : MInv l pre) {b : Nat} (hb : b < 256) : MInv (mtf l b) (pre ++ [b]) where
  perm := (List.perm_cons_erase (h.mem hb)).symm.trans h.perm
  ord z y hz hy := by
    have hzl := h.mem hz
    have hyl := h.mem hy
    have hbl := h.mem hb
    have ho := h.ord z y hz hy
    unfold befM at ho ⊢
    by_cases ez : z = b
    · subst ez
      have : (mtf l z).idxOf z = 0 := by unfold mtf; exact List.idxOf_cons_self
      rw [this, segM_same]; simp
    · rw [segM_other (Ne.symm ez)]
      have i2 := idxOf_mtf h.nodup hzl hbl ez
      by_cases ey : y = b
      · subst ey
        have : (mtf l y).idxOf y = 0 := by unfold mtf; exact List.idxOf_cons_self
        rw [this, i2]
        have hne : l.idxOf z ≠ l.idxOf y := fun e => ez (by
          have h1 := List.getElem_idxOf (List.idxOf_lt_length_of_mem hzl)
          have h2 := List.getElem_idxOf (List.idxOf_lt_length_of_mem hyl)
          rw [← h1, ← h2]; simp only [e])
        simp
        split <;> omega
      · rw [i2, idxOf_mtf h.nodup hyl hbl ey]
        have hne : ∀ u, u ∈ l → u ≠ b → l.idxOf u ≠ l.idxOf b := fun u hu hub e => hub (by
          have h1 := List.getElem_idxOf (List.idxOf_lt_length_of_mem hu)
          have h2 := List.getElem_idxOf (List.idxOf_lt_length_of_mem hbl)
          rw [← h1, ← h2]; simp only [e])
        have := hne y hyl ey
        have := hne z hzl ez
        have e1 : decide (y ∈ b :: segM pre z) = decide (y ∈ segM pre z) := by rw [Bool.eq_iff_iff]; simp [ey]
        have e2 : decide (z ∉ pre ++ [b]) = decide (z ∉ pre) := by rw [Bool.eq_iff_iff]; simp [ez]
        rw [e1, e2, ← ho]
        split <;> split <;> omega
theorem countP_idx {l : List Nat} (hn : l.Nodup) (k : Nat) (hk : k ≤ l.length) : l.countP (fun y => decide (l.idxOf y < k)) = k := by
  conv => lhs; arg 2; rw [← List.take_append_drop k l]
  rw [List.countP_append]
  have h1 : (l.take k).countP (fun y => decide (l.idxOf y < k)) = k := by
    rw [List.countP_eq_length.2]
    · simp; omega
    · intro y hy
      obtain ⟨j, hj, rfl⟩ := List.mem_iff_getElem.1 hy
      have hj2 : j < k ∧ j < l.length := by simp at hj; omega
      rw [List.getElem_take, hn.idxOf_getElem j hj2.2]
      simpa using hj2.1
  have h2 : (l.drop k).countP (fun y => decide (l.idxOf y < k)) = 0 := by
    rw [List.countP_eq_zero]
    intro y hy
    obtain ⟨j, hj, rfl⟩ := List.mem_iff_getElem.1 hy
    have hj2 : k + j < l.length := by simp at hj; omega
    rw [List.getElem_drop, hn.idxOf_getElem _ hj2]
    simp
  omega
theorem MInv.idx {l pre : List Nat} (h : MInv l pre) {b : Nat} (hb : b < 256) : l.idxOf b = cntM pre b := by
  have h1 := countP_idx h.nodup (l.idxOf b) (List.idxOf_le_length ..)
  rw [← h1, h.perm.countP_eq]
  unfold cntM
  apply List.countP_congr
  intro y hy
  rw [decide_eq_true_eq]
  exact h.ord b y hb (List.mem_range.1 hy)
theorem minv : ∀ (n : Nat) (pre : List Nat), pre.length = n → (∀ x ∈ pre, x < 256) → MInv (stM pre) pre := by
  intro n
  induction n with
  | zero => intro pre h _; rw [List.eq_nil_of_length_eq_zero h]; unfold stM; rw [List.foldl_nil]; exact MInv.start
  | succ n ih =>
    intro pre h hl
    obtain ⟨p, b, rfl⟩ : ∃ p b, pre = p ++ [b] := by
      rcases List.eq_nil_or_concat pre with e | ⟨p, b, e⟩
      · subst e; simp at h
      · exact ⟨p, b, by simpa using e⟩
    rw [stM_snoc]
    exact (ih p (by simpa using h) (fun x hx => hl x (List.mem_append_left _ hx))).step (hl b (by simp))
theorem stM_inv {pre : List Nat} (h : ∀ x ∈ pre, x < 256) : MInv (stM pre) pre := minv _ pre rfl h
theorem cnt_lt {pre : List Nat} (h : ∀ x ∈ pre, x < 256) {b : Nat} (hb : b < 256) : cntM pre b < 256 := by
  have hi := stM_inv h
  rw [← hi.idx hb, ← hi.len]
  exact List.idxOf_lt_length_of_mem (hi.mem hb)
/-- who stands at a place -/
theorem cnt_at {pre : List Nat} (h : ∀ x ∈ pre, x < 256) {k x : Nat} (hk : (stM pre)[k]? = some x) {y : Nat} (hy : y < 256) : cntM pre y = k ↔ y = x := by
  have hi := stM_inv h
  obtain ⟨hlt, e⟩ := List.getElem?_eq_some_iff.1 hk
  rw [← hi.idx hy]
  constructor
  · intro e2
    have h1 := List.getElem_idxOf (List.idxOf_lt_length_of_mem (hi.mem hy))
    subst e2
    rw [← e, h1]
  · intro e2
    subst e2
    rw [← e]
    exact hi.nodup.idxOf_getElem _ hlt
/-- what comes to the front -/
def frontL (l : List Nat) (k : Nat) : List Nat := l.getD k 0 :: (l.take k ++ l.drop (k + 1))
theorem frontL_mtf {l : List Nat} (hn : l.Nodup) {k x : Nat} (hk : l[k]? = some x) : frontL l k = mtf l x := by
  obtain ⟨hlt, e⟩ := List.getElem?_eq_some_iff.1 hk
  have e2 : l.erase x = l.eraseIdx k := by
    rw [← e, List.erase_eq_eraseIdx_of_idxOf]
    exact (hn.idxOf_getElem k hlt)
  unfold frontL mtf
  rw [e2, List.eraseIdx_eq_take_drop_succ, List.getD_eq_getElem?_getD, hk]
  rfl
/-! ### the reference's count -/
def disM (l : List Nat) : Nat := (List.range 256).countP fun y => decide (y ∈ l)
theorem countP_one (N : Nat) (p q : Nat → Bool) {x : Nat} (hx : x < N) (hp : p x = false) (hq : ∀ y, y < N → q y = (p y || decide (y = x))) : (List.range N).countP q = (List.range N).countP p + 1 := by
  induction N with
  | zero => omega
  | succ N ih =>
    rw [List.range_succ, List.countP_append, List.countP_append]
    have hN := hq N (by omega)
    by_cases e : N = x
    · subst e
      have : (List.range N).countP q = (List.range N).countP p := List.countP_congr fun y hy => by
        have hy := List.mem_range.1 hy
        rw [hq y (by omega)]; simp; omega
      simp [this, hN, hp]
    · rw [ih (by omega) (fun y hy => hq y (by omega))]
      have : q N = p N := by rw [hN]; simp [e]
      simp [this]; omega
theorem dis_snoc {l : List Nat} {x : Nat} (hx : x < 256) : disM (l ++ [x]) = disM l + if x ∈ l then 0 else 1 := by
  unfold disM
  by_cases h : x ∈ l
  · rw [if_pos h, Nat.add_zero]
    apply List.countP_congr
    intro y _
    simp only [decide_eq_true_eq, List.mem_append, List.mem_singleton]
    constructor
    · rintro (h1 | rfl) <;> assumption
    · exact .inl
  · rw [if_neg h]
    refine countP_one 256 _ _ hx (by simpa using h) fun y _ => ?_
    rw [Bool.eq_iff_iff]; simp
theorem dis_nil : disM [] = 0 := by
  unfold disM; rw [List.countP_eq_zero]; intro y _; simp
def lowM (l : List Nat) (b : Nat) : Nat := (List.range b).countP fun y => decide (y ∉ l)
theorem low_next (l : List Nat) (b : Nat) : lowM l (b + 1) = lowM l b + if b ∈ l then 0 else 1 := by
  unfold lowM
  rw [List.range_succ, List.countP_append]
  by_cases h : b ∈ l <;> simp [h]
theorem countP_or (N : Nat) (p q : Nat → Bool) : (List.range N).countP (fun y => p y || q y) = (List.range N).countP p + (List.range N).countP (fun y => q y && !p y) := by
  induction N with
  | zero => rfl
  | succ N ih =>
    rw [List.range_succ, List.countP_append, List.countP_append, List.countP_append, ih]
    cases h1 : p N <;> cases h2 : q N <;> simp [h1, h2] <;> omega
theorem countP_low {l : List Nat} {b : Nat} (hb : b ≤ 256) : (List.range 256).countP (fun y => decide (y < b) && !decide (y ∈ l)) = lowM l b := by
  obtain ⟨d, hd⟩ : ∃ d, 256 = b + d := ⟨256 - b, by omega⟩
  rw [hd, List.range_add, List.countP_append]
  have h1 : (List.range b).countP (fun y => decide (y < b) && !decide (y ∈ l)) = lowM l b := List.countP_congr fun y hy => by
    have hy := List.mem_range.1 hy
    simp [hy]
  have h2 : ((List.range d).map (b + ·)).countP (fun y => decide (y < b) && !decide (y ∈ l)) = 0 := by
    rw [List.countP_eq_zero]
    intro y hy
    obtain ⟨j, _, rfl⟩ := List.mem_map.1 hy
    have : ¬ b + j < b := by omega
    simp [this]
  omega
/-- b came last at p -/
theorem cnt_seen {pre : List Nat} {b p : Nat} (hp : pre[p]? = some b) (hno : b ∉ pre.drop (p + 1)) : cntM pre b = disM (pre.drop (p + 1)) := by
  obtain ⟨hlt, e⟩ := List.getElem?_eq_some_iff.1 hp
  have hmem : b ∈ pre := List.mem_of_getElem? hp
  have hs : segM pre b = (pre.drop (p + 1)).reverse := by
    unfold segM
    conv => lhs; rw [← List.take_append_drop p pre, List.drop_eq_getElem_cons hlt, e]
    rw [List.reverse_append, List.reverse_cons, List.append_assoc, List.takeWhile_append_of_pos]
    · simp
    · intro x hx; simp; intro e2; subst e2; exact hno (List.mem_reverse.1 hx)
  unfold cntM disM
  apply List.countP_congr
  intro y _
  unfold befM
  rw [hs]; simp [hmem]
theorem cnt_new {pre : List Nat} {b : Nat} (hb : b ≤ 256) (hno : b ∉ pre) : cntM pre b = disM pre + lowM pre b := by
  rw [← countP_low hb]
  unfold cntM disM
  rw [← countP_or]
  apply List.countP_congr
  intro y _
  unfold befM
  rw [segM_not hno]; simp [hno]
def frL (t : List Nat) : List Nat := (List.range t.length).map fun i => cntM (t.take i) (t.getD i 0)
theorem frL_snoc (t : List Nat) (x : Nat) : frL (t ++ [x]) = frL t ++ [cntM t x] := by
  unfold frL
  rw [List.length_append, List.length_singleton, List.range_succ, List.map_append]
  congr 1
  · apply List.map_congr_left
    intro i hi
    have hi := List.mem_range.1 hi
    rw [List.take_append_of_le_length (by omega), List.getD_eq_getElem?_getD, List.getD_eq_getElem?_getD, List.getElem?_append_left hi]
  · simp [List.getD_eq_getElem?_getD]
/-- what the numbers come to, symbol by symbol -/
def unS (out : List Nat) (k : Nat) : List Nat := out ++ [(stM out).getD k 0]
def unM (l : List Nat) : List Nat := l.foldl unS []
end Go.Proofs.Ytmepiiheidmbgaa

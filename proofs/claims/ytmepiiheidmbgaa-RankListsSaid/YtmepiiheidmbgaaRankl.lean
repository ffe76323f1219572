/-
  Lists of numbers, each once, in their order: plain Lean.
-/
import Derived.Test.YtmepiiheidmbgaaBase
set_option linter.unusedVariables false
namespace Go.Proofs.Ytmepiiheidmbgaa

def fct : Nat → Nat
  | 0 => 1
  | n + 1 => (n + 1) * fct n
theorem fct_pos (n : Nat) : 0 < fct n := by
  induction n with
  | zero => decide
  | succ n ih => exact Nat.mul_pos (by omega) ih
/-- the r-th list of what is left -/
def unL : Nat → List Nat → Nat → List Nat
  | 0, _, _ => []
  | n + 1, left, r => left.getD (r / fct n) 0 :: unL n (left.eraseIdx (r / fct n)) (r % fct n)
/-- which one it is -/
def rkL : List Nat → List Nat → Nat
  | _, [] => 0
  | left, x :: t => left.idxOf x * fct t.length + rkL (left.erase x) t
theorem unL_len : ∀ (n : Nat) (left : List Nat) (r : Nat), (unL n left r).length = n
  | 0, _, _ => rfl
  | n + 1, left, r => by rw [unL, List.length_cons, unL_len n]
theorem div_lt_fct {n r : Nat} (hr : r < fct (n + 1)) : r / fct n < n + 1 := by
  rw [Nat.div_lt_iff_lt_mul (fct_pos n)]; exact hr
theorem asc_erase {left : List Nat} {k : Nat} (h : left.Pairwise (· < ·)) : (left.eraseIdx k).Pairwise (· < ·) := List.Pairwise.eraseIdx k h
theorem unL_perm : ∀ (n : Nat) (left : List Nat) (r : Nat), left.length = n → r < fct n → (unL n left r).Perm left
  | 0, left, r, hl, _ => by rw [List.eq_nil_of_length_eq_zero hl]; exact List.Perm.refl _
  | n + 1, left, r, hl, hr => by
    have hk := div_lt_fct hr
    have hk2 : r / fct n < left.length := by omega
    have hm : r % fct n < fct n := Nat.mod_lt _ (fct_pos n)
    have ih := unL_perm n (left.eraseIdx (r / fct n)) (r % fct n) (by rw [List.length_eraseIdx_of_lt hk2, hl]; rfl) hm
    rw [unL]
    refine (List.Perm.cons _ ih).trans ?_
    rw [List.getD_eq_getElem?_getD, List.getElem?_eq_getElem hk2]
    rw [List.eraseIdx_eq_take_drop_succ]
    conv => rhs; rw [← List.take_append_drop (r / fct n) left, List.drop_eq_getElem_cons hk2]
    exact List.perm_middle.symm
theorem unL_zero : ∀ (n : Nat) (left : List Nat), left.length = n → unL n left 0 = left
  | 0, left, hl => by rw [List.eq_nil_of_length_eq_zero hl]; rfl
  | n + 1, left, hl => by
    rw [unL, Nat.zero_div, Nat.zero_mod, unL_zero n]
    · cases left with
      | nil => simp at hl
      | cons a t => rfl
    · cases left with
      | nil => simp at hl
      | cons a t => simpa using hl
theorem unL_desc : ∀ (n : Nat) (left : List Nat) (r : Nat), left.length = n → r < fct n → left.Pairwise (· < ·) → (unL n left r).Pairwise (· > ·) → r + 1 = fct n ∧ unL n left r = left.reverse
  | 0, left, r, hl, hr, _, _ => by rw [List.eq_nil_of_length_eq_zero hl]; simp [fct] at hr ⊢; exact ⟨hr, rfl⟩
  | n + 1, left, r, hl, hr, ha, hd => by
    have hk := div_lt_fct hr
    have hk2 : r / fct n < left.length := by omega
    have hm : r % fct n < fct n := Nat.mod_lt _ (fct_pos n)
    rw [unL, List.pairwise_cons] at hd
    have hl2 : (left.eraseIdx (r / fct n)).length = n := by rw [List.length_eraseIdx_of_lt hk2, hl]; rfl
    have ih := unL_desc n (left.eraseIdx (r / fct n)) (r % fct n) hl2 hm (asc_erase ha) hd.2
    have hp := unL_perm n (left.eraseIdx (r / fct n)) (r % fct n) hl2 hm
    have hx : left.getD (r / fct n) 0 = left[r / fct n] := by rw [List.getD_eq_getElem?_getD, List.getElem?_eq_getElem hk2]; rfl
    have hat : r / fct n = n := by
      rcases Nat.lt_or_ge (r / fct n) n with hlt | hge
      · exfalso
        have hmem : left[n]'(by omega) ∈ left.eraseIdx (r / fct n) := by
          rw [List.mem_eraseIdx_iff_getElem]
          exact ⟨n, by omega, by omega, rfl⟩
        have h1 := hd.1 _ (hp.mem_iff.2 hmem)
        have h2 := List.pairwise_iff_getElem.1 ha (r / fct n) n hk2 (by omega) hlt
        rw [hx] at h1
        omega
      · omega
    have e1 := Nat.div_add_mod r (fct n)
    refine ⟨?_, ?_⟩
    · rw [hat] at e1
      rw [fct, Nat.succ_mul, Nat.mul_comm]
      have := ih.1
      rw [Nat.mul_comm] at e1
      rw [Nat.mul_comm]
      omega
    · rw [unL, ih.2, hx]
      simp only [hat]
      have e2 : left = left.take n ++ [left[n]'(by omega)] := by
        conv => lhs; rw [← List.take_append_drop n left]
        rw [List.drop_eq_getElem_cons (by omega), List.drop_of_length_le (by omega)]
      have e3 : left.eraseIdx n = left.take n := by
        rw [List.eraseIdx_eq_take_drop_succ, List.drop_of_length_le (by omega), List.append_nil]
      rw [e3]
      conv => rhs; rw [e2]
      rw [List.reverse_append]; rfl
/-- the next list, by two places -/
def nxL (l : List Nat) (i j : Nat) : List Nat := l.take i ++ l.getD j 0 :: ((l.set j (l.getD i 0)).drop (i + 1)).reverse
theorem nxL_cons (x : Nat) (t : List Nat) (i j : Nat) : nxL (x :: t) (i + 1) (j + 1) = x :: nxL t i j := by
  unfold nxL
  simp
/-- what the two loops find -/
structure NextAt (l : List Nat) (i j : Nat) : Prop where
  ij : i < j
  jl : j < l.length
  up : l.getD i 0 < l.getD (i + 1) 0
  down : (l.drop (i + 1)).Pairwise (· > ·)
  big : l.getD i 0 < l.getD j 0
  small : ∀ p, j < p → p < l.length → l.getD p 0 < l.getD i 0
theorem unL_next : ∀ (i n : Nat) (left : List Nat) (r j : Nat), left.length = n → r < fct n → left.Pairwise (· < ·) → NextAt (unL n left r) i j → r + 1 < fct n ∧ nxL (unL n left r) i j = unL n left (r + 1)
  | i, 0, left, r, j, hl, hr, ha, h => by have := h.jl; rw [unL_len] at this; omega
  | i + 1, n + 1, left, r, j, hl, hr, ha, h => by
    obtain ⟨j, rfl⟩ : ∃ j', j = j' + 1 := ⟨j - 1, by have := h.ij; omega⟩
    have hk := div_lt_fct hr
    have hk2 : r / fct n < left.length := by omega
    have hm : r % fct n < fct n := Nat.mod_lt _ (fct_pos n)
    have hl2 : (left.eraseIdx (r / fct n)).length = n := by rw [List.length_eraseIdx_of_lt hk2, hl]; rfl
    obtain ⟨h1, h2, h3, h4, h5, h6⟩ := h
    rw [unL] at h2 h3 h4 h5 h6 ⊢
    have ih := unL_next i n (left.eraseIdx (r / fct n)) (r % fct n) j hl2 hm (asc_erase ha) ⟨by omega, by simpa using h2, by simpa using h3, by simpa using h4, by simpa using h5, fun p hp hp2 => by
      have := h6 (p + 1) (by omega) (by simpa using hp2)
      simpa using this⟩
    rw [nxL_cons, ih.2]
    have e1 := Nat.div_add_mod r (fct n)
    have e2 : (r + 1) / fct n = r / fct n := by
      refine Nat.div_eq_of_lt_le ?_ ?_
      · rw [Nat.mul_comm]; omega
      · rw [Nat.succ_mul, Nat.mul_comm]; omega
    have e3 : (r + 1) % fct n = r % fct n + 1 := by
      have := Nat.div_add_mod (r + 1) (fct n)
      rw [e2] at this; omega
    refine ⟨?_, by rw [unL, e2, e3]⟩
    have : fct n * (r / fct n + 1) ≤ fct (n + 1) := by rw [fct, Nat.mul_comm]; exact Nat.mul_le_mul_right _ hk
    rw [Nat.mul_add] at this
    omega
  | 0, n + 1, left, r, j, hl, hr, ha, h => by
    obtain ⟨j, rfl⟩ : ∃ j', j = j' + 1 := ⟨j - 1, by have := h.ij; omega⟩
    have hk := div_lt_fct hr
    have hk2 : r / fct n < left.length := by omega
    have hm : r % fct n < fct n := Nat.mod_lt _ (fct_pos n)
    have hl2 : (left.eraseIdx (r / fct n)).length = n := by rw [List.length_eraseIdx_of_lt hk2, hl]; rfl
    obtain ⟨h1, h2, h3, h4, h5, h6⟩ := h
    rw [unL] at h2 h3 h4 h5 h6 ⊢
    have hd := unL_desc n (left.eraseIdx (r / fct n)) (r % fct n) hl2 hm (asc_erase ha) (by simpa using h4)
    obtain ⟨hd1, hd2⟩ := hd
    have e1 := Nat.div_add_mod r (fct n)
    rw [hd2] at h2 h3 h4 h5 h6 ⊢
    clear hd2
    generalize r / fct n = a at *
    generalize hL : left.eraseIdx a = L at *
    have hx : left.getD a 0 = left[a] := by rw [List.getD_eq_getElem?_getD, List.getElem?_eq_getElem hk2]; rfl
    have hn : 0 < n := by simp at h2; omega
    have hj : j < n := by simp at h2; omega
    have hLg : ∀ k (hk : k < L.length), L[k] = if k < a then left[k]'(by omega) else left[k + 1]'(by omega) := by
      intro k hk; subst hL
      rw [List.getElem_eraseIdx]
      split <;> rfl
    have hrev : ∀ k, k < n → (L.reverse).getD k 0 = L[n - 1 - k]'(by omega) := by
      intro k hk
      rw [List.getD_eq_getElem?_getD, List.getElem?_eq_getElem (by simp; omega)]
      simp only [Option.getD_some, List.getElem_reverse]
      congr 1; omega
    have hlt : ∀ p q (hp : p < left.length) (hq : q < left.length), p < q → left[p] < left[q] := fun p q hp hq hpq => List.pairwise_iff_getElem.1 ha p q hp hq hpq
    simp only [List.getD_cons_zero, List.getD_cons_succ] at h3 h5 h6
    have han : a < n := by
      rcases Nat.lt_or_ge a n with hlt2 | hge
      · exact hlt2
      · exfalso
        have : a = n := by omega
        subst this
        have h0 := hrev 0 hn
        rw [h0, hx, hLg _ (by omega), if_pos (by omega)] at h3
        have := hlt (a - 1 - 0) a (by omega) (by omega) (by omega)
        omega
    have hja : n - 1 - j = a := by
      rcases Nat.lt_trichotomy (n - 1 - j) a with c | c | c
      · exfalso
        rw [hrev j hj, hx, hLg _ (by omega), if_pos c] at h5
        have := hlt (n - 1 - j) a (by omega) (by omega) c
        omega
      · exact c
      · exfalso
        have := h6 (n - 1 - a + 1) (by omega) (by simp; omega)
        rw [List.getD_cons_succ, hrev (n - 1 - a) (by omega), hx, hLg _ (by omega), if_neg (by omega)] at this
        have := hlt a (n - 1 - (n - 1 - a) + 1) (by omega) (by omega) (by omega)
        omega
    have e2 : (r + 1) = (a + 1) * fct n := by rw [Nat.succ_mul, Nat.mul_comm]; omega
    have e3 : (r + 1) / fct n = a + 1 := by rw [e2]; exact Nat.mul_div_cancel _ (fct_pos n)
    have e4 : (r + 1) % fct n = 0 := by rw [e2]; exact Nat.mul_mod_left _ _
    refine ⟨by rw [e2, fct]; exact Nat.mul_lt_mul_of_pos_right (by omega) (fct_pos n), ?_⟩
    rw [unL, e3, e4, unL_zero n _ (by rw [List.length_eraseIdx_of_lt (by omega)]; omega)]
    unfold nxL
    simp only [List.take_zero, List.nil_append, List.getD_cons_succ, List.getD_cons_zero, List.set_cons_succ, List.drop_succ_cons, Nat.zero_add, List.drop_zero]
    rw [hrev j hj, hx]
    congr 1
    · rw [hLg _ (by omega), if_neg (by omega), List.getD_eq_getElem?_getD, List.getElem?_eq_getElem (by omega)]
      simp [hja]
    · apply List.ext_getElem
      · rw [List.length_eraseIdx_of_lt (by omega)]; simp; omega
      · intro k g1 g2
        have gk : k < n := by simp at g1; omega
        rw [List.getElem_reverse, List.getElem_set, List.getElem_eraseIdx]
        simp only [List.length_set, List.length_reverse]
        by_cases c : j = L.length - 1 - k
        · rw [if_pos c, dif_pos (by omega)]
          congr 1; omega
        · rw [if_neg c, List.getElem_reverse]
          have : L.length - 1 - (L.length - 1 - k) = k := by omega
          simp only [this]
          rw [hLg _ (by omega)]
          by_cases c2 : k < a
          · rw [if_pos c2, dif_pos (by omega)]
          · rw [if_neg c2, dif_neg (by omega)]
theorem rk_un : ∀ (n : Nat) (left : List Nat) (r : Nat), left.length = n → r < fct n → left.Nodup → rkL left (unL n left r) = r
  | 0, left, r, hl, hr, _ => by simp [fct] at hr; subst hr; rfl
  | n + 1, left, r, hl, hr, hnd => by
    have hk := div_lt_fct hr
    have hk2 : r / fct n < left.length := by omega
    have hm : r % fct n < fct n := Nat.mod_lt _ (fct_pos n)
    have hl2 : (left.eraseIdx (r / fct n)).length = n := by rw [List.length_eraseIdx_of_lt hk2, hl]; rfl
    have hx : left.getD (r / fct n) 0 = left[r / fct n] := by rw [List.getD_eq_getElem?_getD, List.getElem?_eq_getElem hk2]; rfl
    rw [unL, rkL, unL_len, hx, hnd.idxOf_getElem _ hk2, List.erase_eq_eraseIdx_of_idxOf (hnd.idxOf_getElem _ hk2), rk_un n _ _ hl2 hm (hnd.eraseIdx _), Nat.mul_comm]
    exact Nat.div_add_mod r (fct n)
theorem un_rk : ∀ (l left : List Nat), left.Nodup → l.Perm left → rkL left l < fct l.length ∧ unL l.length left (rkL left l) = l
  | [], left, _, _ => by simp [rkL, fct, unL]
  | x :: t, left, hnd, hp => by
    have hxm : x ∈ left := hp.mem_iff.1 (List.mem_cons_self ..)
    have hp2 : t.Perm (left.erase x) := by
      have := hp.erase x
      rwa [List.erase_cons_head] at this
    have ih := un_rk t (left.erase x) (hnd.erase x) hp2
    have hi := List.idxOf_lt_length_of_mem hxm
    have hlen : left.length = t.length + 1 := by rw [← hp.length_eq]; rfl
    rw [rkL, List.length_cons]
    have e1 : (left.idxOf x * fct t.length + rkL (left.erase x) t) / fct t.length = left.idxOf x := by
      rw [Nat.mul_comm, Nat.mul_add_div (fct_pos _), Nat.div_eq_of_lt ih.1, Nat.add_zero]
    have e2 : (left.idxOf x * fct t.length + rkL (left.erase x) t) % fct t.length = rkL (left.erase x) t := by
      rw [Nat.mul_comm, Nat.mul_add_mod, Nat.mod_eq_of_lt ih.1]
    refine ⟨?_, ?_⟩
    · rw [fct]
      have : (left.idxOf x + 1) * fct t.length ≤ (t.length + 1) * fct t.length := Nat.mul_le_mul_right _ (by omega)
      rw [Nat.succ_mul] at this
      have := ih.1
      omega
    · rw [unL, e1, e2, ← List.erase_eq_eraseIdx_of_idxOf rfl, ih.2]
      congr 1
      rw [List.getD_eq_getElem?_getD, List.getElem?_eq_getElem hi]
      simp [List.getElem_idxOf hi]
/-- where a number stands among those that are left -/
theorem idx_left (n : Nat) (s : List Nat) (x : Nat) (hx : x < n) (hs : x ∉ s) : ((List.range n).filter fun y => decide (y ∉ s)).idxOf x = ((List.range x).filter fun y => decide (y ∉ s)).length := by
  obtain ⟨d, rfl⟩ : ∃ d, n = x + (d + 1) := ⟨n - x - 1, by omega⟩
  rw [List.range_add, List.filter_append, List.idxOf_append]
  rw [if_neg (by simp)]
  have : (List.filter (fun y => decide (y ∉ s)) ((List.range (d + 1)).map (x + ·))).idxOf x = 0 := by
    rw [List.range_succ_eq_map, List.map_cons, List.filter_cons, Nat.add_zero, if_pos (by simpa using hs)]
    exact List.idxOf_cons_self
  omega
theorem len_left (x : Nat) (s : List Nat) (hn : s.Nodup) : ((List.range x).filter fun y => decide (y ∉ s)).length + (s.filter fun y => decide (y < x)).length = x := by
  induction x with
  | zero => simp
  | succ x ih =>
    rw [List.range_succ, List.filter_append, List.length_append]
    have e : (s.filter fun y => decide (y < x + 1)).length = (s.filter fun y => decide (y < x)).length + if x ∈ s then 1 else 0 := by
      clear ih
      induction s with
      | nil => rfl
      | cons a s ihs =>
        rw [List.nodup_cons] at hn
        have := ihs hn.2
        rw [List.filter_cons, List.filter_cons]
        by_cases c : a = x
        · subst c
          rw [if_pos (by simp), if_neg (by simp), List.length_cons, this, if_neg hn.1, if_pos (List.mem_cons_self ..)]
        · by_cases c2 : a < x
          · rw [if_pos (by simp; omega), if_pos (by simpa using c2), List.length_cons, List.length_cons, this]
            simp [Ne.symm c]; omega
          · rw [if_neg (by simp; omega), if_neg (by simpa using c2), this]
            simp [Ne.symm c]
    rw [e]
    by_cases c : x ∈ s
    · simp only [if_pos c]; simp only [List.filter_cons, List.filter_nil]; rw [if_neg (by simpa using c)]; simp only [List.length_nil]; omega
    · simp only [if_neg c]; simp only [List.filter_cons, List.filter_nil]; rw [if_pos (by simpa using c)]; simp only [List.length_cons, List.length_nil]; omega
end Go.Proofs.Ytmepiiheidmbgaa

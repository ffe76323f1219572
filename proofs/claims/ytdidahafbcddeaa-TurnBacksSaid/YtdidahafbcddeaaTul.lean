/-
  Turned texts: plain Lean. What turn.Turn and quipuref.Turned tell; why the text comes back.
-/
import Derived.Test.YtdidahafbcddeaaBase
set_option linter.unusedVariables false
namespace Go.Proofs.Ytdidahafbcddeaa

/-! ### a text as a number -/
def Byt (l : List Nat) : Prop := ∀ x ∈ l, x < 256
def nv (l : List Nat) : Nat := l.foldl (fun a b => a * 256 + b) 0
theorem nv_foldl : ∀ (l : List Nat) (a : Nat), l.foldl (fun a b => a * 256 + b) a = a * 256 ^ l.length + nv l
  | [], a => by simp [nv]
  | x :: t, a => by
    unfold nv
    rw [List.foldl_cons, List.foldl_cons, nv_foldl t, nv_foldl t, List.length_cons, Nat.pow_succ]
    rw [Nat.zero_mul, Nat.zero_add, Nat.add_mul, Nat.mul_assoc, Nat.mul_comm 256, Nat.add_assoc]
theorem nv_cons (x : Nat) (t : List Nat) : nv (x :: t) = x * 256 ^ t.length + nv t := by
  conv => lhs; unfold nv
  rw [List.foldl_cons, nv_foldl, Nat.zero_mul, Nat.zero_add]
theorem nv_append (a b : List Nat) : nv (a ++ b) = nv a * 256 ^ b.length + nv b := by
  conv => lhs; unfold nv
  rw [List.foldl_append, nv_foldl]; rfl
theorem Byt.tail {x : Nat} {t : List Nat} (h : Byt (x :: t)) : Byt t := fun y hy => h y (List.mem_cons_of_mem _ hy)
theorem Byt.head {x : Nat} {t : List Nat} (h : Byt (x :: t)) : x < 256 := h x (List.mem_cons_self ..)
theorem Byt.cons {x : Nat} {t : List Nat} (hx : x < 256) (h : Byt t) : Byt (x :: t) := fun y hy => by
  rcases List.mem_cons.1 hy with rfl | hy
  · exact hx
  · exact h y hy
theorem Byt.append {a b : List Nat} (h : Byt a) (h' : Byt b) : Byt (a ++ b) := fun y hy => by
  rcases List.mem_append.1 hy with hy | hy
  · exact h y hy
  · exact h' y hy
theorem Byt.take {a : List Nat} (h : Byt a) (k : Nat) : Byt (a.take k) := fun y hy => h y (List.mem_of_mem_take hy)
theorem Byt.drop {a : List Nat} (h : Byt a) (k : Nat) : Byt (a.drop k) := fun y hy => h y (List.mem_of_mem_drop hy)
theorem nv_lt : ∀ l : List Nat, Byt l → nv l < 256 ^ l.length
  | [], _ => by simp [nv]
  | x :: t, h => by
    have h1 := nv_lt t h.tail
    have h2 := h.head
    rw [nv_cons, List.length_cons, Nat.pow_succ]
    have : (x + 1) * 256 ^ t.length ≤ 256 * 256 ^ t.length := Nat.mul_le_mul_right _ h2
    rw [Nat.succ_mul] at this
    omega
theorem nv_inj : ∀ {p q : List Nat}, p.length = q.length → Byt p → Byt q → nv p = nv q → p = q
  | [], [], _, _, _, _ => rfl
  | [], _ :: _, h, _, _, _ => by simp at h
  | _ :: _, [], h, _, _, _ => by simp at h
  | x :: p, y :: q, h, hp, hq, e => by
    have hl : p.length = q.length := by simpa using h
    have h1 := nv_lt p hp.tail
    have h2 := nv_lt q hq.tail
    rw [nv_cons, nv_cons, hl] at e
    rw [hl] at h1
    have hxy : x = y := by
      rcases Nat.lt_trichotomy x y with c | c | c
      · have : (x + 1) * 256 ^ q.length ≤ y * 256 ^ q.length := Nat.mul_le_mul_right _ c
        rw [Nat.succ_mul] at this; omega
      · exact c
      · have : (y + 1) * 256 ^ q.length ≤ x * 256 ^ q.length := Nat.mul_le_mul_right _ c
        rw [Nat.succ_mul] at this; omega
    subst hxy
    rw [nv_inj hl hp.tail hq.tail (by omega)]
theorem nv_take {l : List Nat} (hb : Byt l) {k : Nat} (hk : k ≤ l.length) : nv (l.take k) = nv l / 256 ^ (l.length - k) := by
  have e := nv_append (l.take k) (l.drop k)
  rw [List.take_append_drop, List.length_drop] at e
  have h := nv_lt (l.drop k) (hb.drop k)
  rw [List.length_drop] at h
  rw [e, Nat.add_comm, Nat.add_mul_div_right _ _ (Nat.pow_pos (by omega)), Nat.div_eq_of_lt h, Nat.zero_add]
/-- is a text ahead of another -/
def ahB : List Nat → List Nat → Bool
  | x :: a, y :: b => if x = y then ahB a b else decide (x < y)
  | a, b => decide (a.length < b.length)
theorem ahB_nv : ∀ {a b : List Nat}, a.length = b.length → Byt a → Byt b → ahB a b = decide (nv a < nv b)
  | [], [], _, _, _ => by simp [ahB]
  | [], _ :: _, h, _, _ => by simp at h
  | _ :: _, [], h, _, _ => by simp at h
  | x :: a, y :: b, h, ha, hb => by
    have hl : a.length = b.length := by simpa using h
    have h1 := nv_lt a ha.tail
    have h2 := nv_lt b hb.tail
    rw [ahB, nv_cons, nv_cons, hl]
    rw [hl] at h1
    by_cases e : x = y
    · subst e
      rw [if_pos rfl, ahB_nv hl ha.tail hb.tail]
      apply decide_eq_decide.2
      omega
    · rw [if_neg e]
      apply decide_eq_decide.2
      rcases Nat.lt_or_ge x y with c | c
      · have : (x + 1) * 256 ^ b.length ≤ y * 256 ^ b.length := Nat.mul_le_mul_right _ c
        rw [Nat.succ_mul] at this
        exact ⟨fun _ => by omega, fun _ => c⟩
      · have c2 : y < x := by omega
        have : (y + 1) * 256 ^ b.length ≤ x * 256 ^ b.length := Nat.mul_le_mul_right _ c2
        rw [Nat.succ_mul] at this
        exact ⟨fun _ => by omega, fun _ => by omega⟩

/-! ### in order: one list alone -/
theorem sorted_uniq {α : Type} (f : α → Nat) : ∀ {l m : List α}, l.Perm m → l.Pairwise (fun x y => f x ≤ f y) → m.Pairwise (fun x y => f x ≤ f y) → (∀ x ∈ l, ∀ y ∈ l, f x = f y → x = y) → l = m
  | [], m, hp, _, _, _ => by rw [List.nil_perm.1 hp]
  | a :: l, [], hp, _, _, _ => by have := hp.length_eq; simp at this
  | a :: l, b :: m, hp, h1, h2, hi => by
    have ha : a ∈ b :: m := hp.mem_iff.1 (List.mem_cons_self ..)
    have hb : b ∈ a :: l := hp.mem_iff.2 (List.mem_cons_self ..)
    have e1 : f b ≤ f a := by
      rcases List.mem_cons.1 ha with rfl | h
      · exact Nat.le_refl _
      · exact (List.pairwise_cons.1 h2).1 a h
    have e2 : f a ≤ f b := by
      rcases List.mem_cons.1 hb with rfl | h
      · exact Nat.le_refl _
      · exact (List.pairwise_cons.1 h1).1 b h
    have e : a = b := hi a (List.mem_cons_self ..) b hb (by omega)
    subst e
    rw [sorted_uniq f ((List.perm_cons a).1 hp) (List.pairwise_cons.1 h1).2 (List.pairwise_cons.1 h2).2 (fun x hx y hy => hi x (List.mem_cons_of_mem _ hx) y (List.mem_cons_of_mem _ hy))]
theorem strict_inj {α : Type} {f : α → Nat} {l : List α} (h : l.Pairwise (fun x y => f x < f y)) : ∀ x ∈ l, ∀ y ∈ l, f x = f y → x = y := fun x hx y hy e => by
  obtain ⟨i, hi, rfl⟩ := List.mem_iff_getElem.1 hx
  obtain ⟨j, hj, rfl⟩ := List.mem_iff_getElem.1 hy
  rcases Nat.lt_trichotomy i j with c | c | c
  · have := List.pairwise_iff_getElem.1 h i j hi hj c; omega
  · subst c; rfl
  · have := List.pairwise_iff_getElem.1 h j i hj hi c; omega
theorem strict_uniq {α : Type} (f : α → Nat) {l m : List α} (hp : l.Perm m) (h1 : l.Pairwise (fun x y => f x < f y)) (h2 : m.Pairwise (fun x y => f x < f y)) : l = m :=
  sorted_uniq f hp (h1.imp fun h => Nat.le_of_lt h) (h2.imp fun h => Nat.le_of_lt h) (strict_inj h1)

/-! ### turns -/
def trn (T : List Nat) (i : Nat) : List Nat := T.drop i ++ T.take i
theorem trn_len {T : List Nat} {i : Nat} (h : i ≤ T.length) : (trn T i).length = T.length := by unfold trn; simp; omega
theorem trn_byt {T : List Nat} (h : Byt T) (i : Nat) : Byt (trn T i) := (h.drop i).append (h.take i)
theorem trn_twice {T : List Nat} {i : Nat} (h : i ≤ T.length) : ((T ++ T).drop i).take T.length = trn T i := by
  rw [List.drop_append_of_le_length h, List.take_append, List.length_drop]
  unfold trn
  rw [List.take_of_length_le (by simp), show T.length - (T.length - i) = i by omega]
theorem trn_zero (T : List Nat) : trn T 0 = T := by simp [trn]
theorem trn_full (T : List Nat) : trn T T.length = T := by simp [trn]
/-- the turn before -/
def prv (n i : Nat) : Nat := if i = 0 then n - 1 else i - 1
theorem prv_lt {n i : Nat} (h : i < n) : prv n i < n := by unfold prv; split <;> omega
/-- a turn and the next -/
theorem trn_step {T : List Nat} {i : Nat} (h : i < T.length) : ∃ u x, trn T i = x :: u ∧ trn T (i + 1) = u ++ [x] ∧ T[i]? = some x := by
  have hx : T[i]? = some T[i] := List.getElem?_eq_getElem h
  refine ⟨T.drop (i + 1) ++ T.take i, T[i], ?_, ?_, hx⟩
  · unfold trn; rw [drop_next hx]; rfl
  · unfold trn; rw [take_next hx, List.append_assoc]
/-- the last byte of a turn -/
def lastT (T : List Nat) (i : Nat) : Nat := (trn T i).getD (T.length - 1) 0
theorem trn_prv {T : List Nat} {i : Nat} (h : i < T.length) : ∃ u, trn T i = u ++ [lastT T i] ∧ trn T (prv T.length i) = lastT T i :: u ∧ u.length = T.length - 1 := by
  have key : ∀ j, j < T.length → (trn T i = trn T (j + 1)) → prv T.length i = j → ∃ u, trn T i = u ++ [lastT T i] ∧ trn T (prv T.length i) = lastT T i :: u ∧ u.length = T.length - 1 := by
    intro j hj e1 e2
    obtain ⟨u, x, h1, h2, _⟩ := trn_step hj
    have hl := trn_len (T := T) (i := i) (by omega)
    rw [e1, h2] at hl
    have hu : u.length = T.length - 1 := by simp at hl; omega
    have hx : lastT T i = x := by
      unfold lastT
      rw [e1, h2, List.getD_eq_getElem?_getD, ← hu, List.getElem?_append_right (Nat.le_refl _)]
      simp
    refine ⟨u, ?_, ?_, hu⟩
    · rw [hx, e1, h2]
    · rw [e2, h1, hx]
  unfold prv at key ⊢
  rcases Nat.eq_zero_or_pos i with e | e
  · subst e
    rw [if_pos rfl] at key ⊢
    exact key (T.length - 1) (by omega) (by rw [show T.length - 1 + 1 = T.length by omega, trn_full, trn_zero]) rfl
  · rw [if_neg (by omega)] at key ⊢
    exact key (i - 1) (by omega) (by rw [show i - 1 + 1 = i by omega]) rfl
theorem prv_perm (n : Nat) : ((List.range n).map (prv n)).Perm (List.range n) := by
  cases n with
  | zero => exact List.Perm.refl _
  | succ m =>
    have e : (List.range (m + 1)).map (prv (m + 1)) = m :: List.range m := by
      rw [List.range_succ_eq_map, List.map_cons, List.map_map]
      congr 1
      rw [← List.map_id (List.range m), List.map_map]
      apply List.map_congr_left
      intro i _
      simp [prv]
    rw [e, List.range_succ]
    exact (List.perm_append_singleton m (List.range m)).symm
/-- in what order the turns stand -/
def kT (T : List Nat) (i : Nat) : Nat := nv (trn T i) * T.length + i
theorem kT_lt {T : List Nat} {i j : Nat} (hi : i < T.length) (hj : j < T.length) : kT T i < kT T j ↔ nv (trn T i) < nv (trn T j) ∨ nv (trn T i) = nv (trn T j) ∧ i < j := by
  unfold kT
  rcases Nat.lt_trichotomy (nv (trn T i)) (nv (trn T j)) with h | h | h
  · have : (nv (trn T i) + 1) * T.length ≤ nv (trn T j) * T.length := Nat.mul_le_mul_right _ h
    rw [Nat.succ_mul] at this
    omega
  · rw [h]; omega
  · have : (nv (trn T j) + 1) * T.length ≤ nv (trn T i) * T.length := Nat.mul_le_mul_right _ h
    rw [Nat.succ_mul] at this
    omega
/-- the order of the turns -/
structure Ord (T : List Nat) (r : List Nat) : Prop where
  perm : r.Perm (List.range T.length)
  ord : r.Pairwise (fun i j => kT T i < kT T j)
theorem Ord.uniq {T r s : List Nat} (h : Ord T r) (h' : Ord T s) : r = s := strict_uniq (kT T) (h.perm.trans h'.perm.symm) h.ord h'.ord
theorem Ord.nodup {T r : List Nat} (h : Ord T r) : r.Nodup := h.perm.nodup_iff.2 List.nodup_range
theorem Ord.len {T r : List Nat} (h : Ord T r) : r.length = T.length := by have := h.perm.length_eq; simpa using this
theorem Ord.lt {T r : List Nat} (h : Ord T r) {i : Nat} (hi : i ∈ r) : i < T.length := List.mem_range.1 (h.perm.mem_iff.1 hi)
/-- Turned: the turns' last bytes in order, and where the text itself stands -/
def TurnR (T out : List Nat) (at_ : Nat) : Prop := ∃ r, Ord T r ∧ out = r.map (lastT T) ∧ at_ = r.idxOf 0
theorem TurnR.uniq {T o o' : List Nat} {a a' : Nat} (h : TurnR T o a) (h' : TurnR T o' a') : o = o' ∧ a = a' := by
  obtain ⟨r, h1, h2, h3⟩ := h
  obtain ⟨s, g1, g2, g3⟩ := h'
  obtain rfl := h1.uniq g1
  exact ⟨h2.trans g2.symm, h3.trans g3.symm⟩
theorem TurnR.len {T o : List Nat} {a : Nat} (h : TurnR T o a) : o.length = T.length := by
  obtain ⟨r, h1, rfl, _⟩ := h
  rw [List.length_map, h1.len]
/-- how many turns come ahead -/
def rkT (T : List Nat) (i : Nat) : Nat := ((List.range T.length).filter fun j => decide (kT T j < kT T i)).length
theorem Ord.rank {T r : List Nat} (h : Ord T r) {t i : Nat} (ht : r[t]? = some i) : rkT T i = t := by
  obtain ⟨h1, h2⟩ := List.getElem?_eq_some_iff.1 ht
  have e1 : r.filter (fun j => decide (kT T j < kT T i)) = r.take t := by
    conv => lhs; rw [← List.take_append_drop t r]
    rw [List.filter_append]
    have f1 : (r.take t).filter (fun j => decide (kT T j < kT T i)) = r.take t := by
      rw [List.filter_eq_self]
      intro j hj
      obtain ⟨k, hk, rfl⟩ := List.mem_iff_getElem.1 hj
      have hk2 : k < t ∧ k < r.length := by simp at hk; omega
      rw [List.getElem_take]
      have := List.pairwise_iff_getElem.1 h.ord k t hk2.2 h1 hk2.1
      rw [h2] at this
      exact decide_eq_true this
    have f2 : (r.drop t).filter (fun j => decide (kT T j < kT T i)) = [] := by
      rw [List.filter_eq_nil_iff]
      intro j hj
      obtain ⟨k, hk, rfl⟩ := List.mem_iff_getElem.1 hj
      have hk2 : t + k < r.length := by simp at hk; omega
      rw [List.getElem_drop]
      rcases Nat.eq_zero_or_pos k with h0 | h0
      · subst h0
        simp only [Nat.add_zero, h2]
        simp
      · have := List.pairwise_iff_getElem.1 h.ord t (t + k) h1 hk2 (by omega)
        rw [h2] at this
        simp
        omega
    rw [f1, f2, List.append_nil]
  have e2 := (h.perm.filter (fun j => decide (kT T j < kT T i))).length_eq
  unfold rkT
  rw [← e2, e1, List.length_take]
  omega
theorem ord_ex (T : List Nat) : ∃ r, Ord T r := by
  have tr : ∀ a b c : Nat, decide (kT T a ≤ kT T b) = true → decide (kT T b ≤ kT T c) = true → decide (kT T a ≤ kT T c) = true := fun a b c h1 h2 => by
    simp only [decide_eq_true_eq] at *; omega
  have to : ∀ a b : Nat, (decide (kT T a ≤ kT T b) || decide (kT T b ≤ kT T a)) = true := fun a b => by
    rw [Bool.or_eq_true]; simp only [decide_eq_true_eq]; omega
  have hp := List.mergeSort_perm (List.range T.length) (fun i j => decide (kT T i ≤ kT T j))
  have hs := List.pairwise_mergeSort tr to (List.range T.length)
  refine ⟨_, hp, ?_⟩
  have hnd : ((List.range T.length).mergeSort fun i j => decide (kT T i ≤ kT T j)).Nodup := hp.nodup_iff.2 List.nodup_range
  rw [List.pairwise_iff_getElem] at hs ⊢
  intro i j hi hj hij
  have h1 := hs i j hi hj hij
  have m1 := List.mem_range.1 (hp.mem_iff.1 (List.getElem_mem hi))
  have m2 := List.mem_range.1 (hp.mem_iff.1 (List.getElem_mem hj))
  simp only [decide_eq_true_eq] at h1
  rcases Nat.lt_or_ge (kT T ((List.range T.length).mergeSort fun i j => decide (kT T i ≤ kT T j))[i]) (kT T ((List.range T.length).mergeSort fun i j => decide (kT T i ≤ kT T j))[j]) with h | h
  · exact h
  · exfalso
    have a1 := kT_lt m1 m2
    have a2 := kT_lt m2 m1
    have := (List.getElem_inj hnd (h₀ := hi) (h₁ := hj)).1 (by omega)
    omega
/-- the reference's way: each turn's last byte to the place of its rank -/
theorem turnR_of_rank {T out : List Nat} {a : Nat} (hl : out.length = T.length) (h : ∀ i, i < T.length → out[rkT T i]? = some (lastT T i)) (ha : (T = [] ∧ a = 0) ∨ (0 < T.length ∧ a = rkT T 0)) : TurnR T out a := by
  obtain ⟨r, hr⟩ := ord_ex T
  refine ⟨r, hr, ?_, ?_⟩
  · apply List.ext_getElem?
    intro t
    rw [List.getElem?_map]
    by_cases ht : t < r.length
    · have e := List.getElem?_eq_getElem ht
      have := h r[t] (hr.lt (List.getElem_mem ht))
      rw [hr.rank e] at this
      rw [this, e]; rfl
    · rw [List.getElem?_eq_none (by rw [hl, ← hr.len]; omega), List.getElem?_eq_none (by omega)]; rfl
  · rcases ha with ⟨e, e2⟩ | ⟨e, e2⟩
    · subst e
      have := hr.len
      have hn : r = [] := List.eq_nil_of_length_eq_zero (by simpa using this)
      rw [hn, e2]; rfl
    · have hm : 0 ∈ r := hr.perm.mem_iff.2 (List.mem_range.2 e)
      have hlt := List.idxOf_lt_length_of_mem hm
      have hx : r[r.idxOf 0]? = some 0 := by rw [List.getElem?_eq_getElem hlt, List.getElem_idxOf]
      rw [e2, hr.rank hx]

/-! ### the way back -/
theorem TurnR.rows {T last : List Nat} {a : Nat} (h : TurnR T last a) : ∃ r, Ord T r ∧ last.length = T.length ∧ (∀ k, k < T.length → last.getD k 0 = lastT T (r.getD k 0)) ∧ (0 < T.length → a < T.length ∧ r.getD a 0 = 0) := by
  obtain ⟨r, h1, rfl, rfl⟩ := h
  refine ⟨r, h1, by rw [List.length_map, h1.len], fun k hk => ?_, fun h0 => ?_⟩
  · have hk2 : k < r.length := by rw [h1.len]; exact hk
    rw [List.getD_eq_getElem?_getD, List.getD_eq_getElem?_getD, List.getElem?_map, List.getElem?_eq_getElem hk2]; rfl
  · have hm : 0 ∈ r := h1.perm.mem_iff.2 (List.mem_range.2 h0)
    have hlt := List.idxOf_lt_length_of_mem hm
    refine ⟨by rw [← h1.len]; exact hlt, ?_⟩
    rw [List.getD_eq_getElem?_getD, List.getElem?_eq_getElem hlt, List.getElem_idxOf]; rfl
theorem range_getD_map {α β : Type} (r : List α) (z : α) (f : α → β) : (List.range r.length).map (fun k => f (r.getD k z)) = r.map f := by
  apply List.ext_getElem (by simp)
  intro i h1 h2
  have : i < r.length := by simpa using h2
  simp [List.getD, List.getElem?_eq_getElem this]
theorem Ord.prv_rows {T r : List Nat} (h : Ord T r) : (r.map fun i => trn T (prv T.length i)).Perm (r.map (trn T)) := by
  have h1 := h.perm.map (fun i => trn T (prv T.length i))
  have h2 := (prv_perm T.length).map (trn T)
  rw [List.map_map] at h2
  exact h1.trans (h2.trans (h.perm.map (trn T)).symm)
theorem Ord.mono {T r : List Nat} (h : Ord T r) {i j : Nat} (hij : i ≤ j) (hj : j < T.length) : nv (trn T (r.getD i 0)) ≤ nv (trn T (r.getD j 0)) := by
  have hj2 : j < r.length := by rw [h.len]; exact hj
  have hi2 : i < r.length := by omega
  rw [List.getD_eq_getElem?_getD, List.getD_eq_getElem?_getD, List.getElem?_eq_getElem hj2, List.getElem?_eq_getElem hi2]
  show nv (trn T r[i]) ≤ nv (trn T r[j])
  rcases Nat.lt_or_ge i j with c | c
  · have := List.pairwise_iff_getElem.1 h.ord i j hi2 hj2 c
    rw [kT_lt (h.lt (List.getElem_mem hi2)) (h.lt (List.getElem_mem hj2))] at this
    omega
  · obtain rfl : i = j := by omega
    exact Nat.le_refl _
/-- the order of the last bytes, the same ones in the order of their places -/
structure Nxt (last : List Nat) (nx : List Nat) : Prop where
  perm : nx.Perm (List.range last.length)
  ord : nx.Pairwise (fun i j => last.getD i 0 < last.getD j 0 ∨ last.getD i 0 = last.getD j 0 ∧ i < j)
/-- from a row the next place leads to the row turned by one -/
theorem nxt_rows {T last r nx : List Nat} (hT : Byt T) (hr : Ord T r) (hl : last.length = T.length) (hlast : ∀ k, k < T.length → last.getD k 0 = lastT T (r.getD k 0)) (hn : Nxt last nx) :
    nx.map (fun k => trn T (prv T.length (r.getD k 0))) = r.map (trn T) := by
  have hnl : ∀ k ∈ nx, k < T.length := fun k hk => by rw [← hl]; exact List.mem_range.1 (hn.perm.mem_iff.1 hk)
  have hp : (nx.map (fun k => trn T (prv T.length (r.getD k 0)))).Perm (r.map (trn T)) := by
    have h1 := hn.perm.map (fun k => trn T (prv T.length (r.getD k 0)))
    have h2 := range_getD_map r 0 (fun i => trn T (prv T.length i))
    rw [hr.len] at h2
    rw [hl, h2] at h1
    exact h1.trans hr.prv_rows
  have hrl : ∀ k, k < T.length → r.getD k 0 < T.length := fun k hk => by
    have hk2 : k < r.length := by rw [hr.len]; exact hk
    rw [List.getD_eq_getElem?_getD, List.getElem?_eq_getElem hk2]
    exact hr.lt (List.getElem_mem hk2)
  refine sorted_uniq nv hp ?_ ?_ ?_
  · rw [List.pairwise_map]
    refine List.Pairwise.imp_of_mem ?_ hn.ord
    intro a b ha hb hab
    have ha2 := hnl a ha
    have hb2 := hnl b hb
    obtain ⟨u, u1, u2, u3⟩ := trn_prv (hrl a ha2)
    obtain ⟨v, v1, v2, v3⟩ := trn_prv (hrl b hb2)
    rw [hlast a ha2, hlast b hb2] at hab
    rw [u2, v2, nv_cons, nv_cons, u3, v3]
    have bu : Byt u := fun x hx => trn_byt hT (r.getD a 0) x (by rw [u1]; exact List.mem_append_left _ hx)
    have bv : Byt v := fun x hx => trn_byt hT (r.getD b 0) x (by rw [v1]; exact List.mem_append_left _ hx)
    have hu := nv_lt u bu
    have hv := nv_lt v bv
    rw [u3] at hu
    rw [v3] at hv
    rcases hab with c | ⟨c, c2⟩
    · have : (lastT T (r.getD a 0) + 1) * 256 ^ (T.length - 1) ≤ lastT T (r.getD b 0) * 256 ^ (T.length - 1) := Nat.mul_le_mul_right _ c
      rw [Nat.succ_mul] at this
      omega
    · rw [c]
      have hm := hr.mono (Nat.le_of_lt c2) hb2
      rw [u1, v1, nv_append, nv_append, c] at hm
      simp only [List.length_singleton, Nat.pow_one] at hm
      omega
  · rw [List.pairwise_map]
    refine List.Pairwise.imp_of_mem ?_ hr.ord
    intro a b ha hb hab
    rw [kT_lt (hr.lt ha) (hr.lt hb)] at hab
    omega
  · intro x hx y hy e
    obtain ⟨i, hi, rfl⟩ := List.mem_map.1 hx
    obtain ⟨j, hj, rfl⟩ := List.mem_map.1 hy
    exact nv_inj (by rw [trn_len (Nat.le_of_lt (prv_lt (hrl i (hnl i hi)))), trn_len (Nat.le_of_lt (prv_lt (hrl j (hnl j hj))))]) (trn_byt hT _) (trn_byt hT _) e
/-- from place to place -/
def itN (nx : List Nat) (a : Nat) : Nat → Nat
  | 0 => a
  | s + 1 => nx.getD (itN nx a s) 0
def backL (last nx : List Nat) (a : Nat) (k : Nat) : List Nat := (List.range k).map fun s => last.getD (itN nx a (s + 1)) 0
theorem Nxt.lt {last nx : List Nat} (h : Nxt last nx) {k : Nat} (hk : k < last.length) : nx.getD k 0 < last.length := by
  have hl : nx.length = last.length := by have := h.perm.length_eq; simpa using this
  have hk2 : k < nx.length := by omega
  rw [List.getD_eq_getElem?_getD, List.getElem?_eq_getElem hk2]
  exact List.mem_range.1 (h.perm.mem_iff.1 (List.getElem_mem hk2))
theorem itN_lt {last nx : List Nat} (h : Nxt last nx) {a : Nat} (ha : a < last.length) : ∀ s, itN nx a s < last.length
  | 0 => ha
  | s + 1 => h.lt (itN_lt h ha s)
/-- THE TEXT COMES BACK: if a text's turns end so, it is what the program reads off -/
theorem back_is {T last nx : List Nat} {a : Nat} (hT : Byt T) (h : TurnR T last a) (hn : Nxt last nx) (h0 : 0 < last.length) : backL last nx a last.length = T := by
  obtain ⟨r, hr, hl, hlast, hat⟩ := h.rows
  have hrows := nxt_rows hT hr hl hlast hn
  obtain ⟨ha, ha0⟩ := hat (by omega)
  have hnl : nx.length = T.length := by have := hn.perm.length_eq; rw [hl] at this; simpa using this
  have hstep : ∀ k, k < T.length → trn T (prv T.length (r.getD (nx.getD k 0) 0)) = trn T (r.getD k 0) := fun k hk => by
    have e := congrArg (fun l => l[k]?) hrows
    simp only [List.getElem?_map] at e
    have hk1 : k < nx.length := by omega
    have hk2 : k < r.length := by rw [hr.len]; exact hk
    rw [List.getElem?_eq_getElem hk1, List.getElem?_eq_getElem hk2] at e
    have g1 : nx.getD k 0 = nx[k] := by rw [List.getD_eq_getElem?_getD, List.getElem?_eq_getElem hk1]; rfl
    have g2 : r.getD k 0 = r[k] := by rw [List.getD_eq_getElem?_getD, List.getElem?_eq_getElem hk2]; rfl
    rw [g1, g2]
    exact Option.some.inj e
  have hrl : ∀ k, k < T.length → r.getD k 0 < T.length := fun k hk => by
    have hk2 : k < r.length := by rw [hr.len]; exact hk
    rw [List.getD_eq_getElem?_getD, List.getElem?_eq_getElem hk2]
    exact hr.lt (List.getElem_mem hk2)
  have hit : ∀ s, itN nx a s < T.length := fun s => by rw [← hl]; exact itN_lt hn (by rw [hl]; exact ha) s
  have main : ∀ s, s < T.length → trn T (r.getD (itN nx a s) 0) = trn T s → trn T (r.getD (itN nx a (s + 1)) 0) = trn T (s + 1) ∧ T[s]? = some (last.getD (itN nx a (s + 1)) 0) := by
    intro s hs e
    obtain ⟨u, x, e1, e2, e3⟩ := trn_step hs
    obtain ⟨v, v1, v2, _⟩ := trn_prv (hrl _ (hit (s + 1)))
    have e4 := hstep _ (hit s)
    have e5 : nx.getD (itN nx a s) 0 = itN nx a (s + 1) := rfl
    rw [e5, v2, e, e1] at e4
    injection e4 with e6 e7
    rw [hlast _ (hit (s + 1)), e3, e6]
    refine ⟨?_, rfl⟩
    rw [v1, e2, e6, e7]
  have all : ∀ s, s ≤ T.length → trn T (r.getD (itN nx a s) 0) = trn T s := by
    intro s
    induction s with
    | zero => intro _; show trn T (r.getD a 0) = _; rw [ha0]
    | succ s ih => intro hs; exact (main s (by omega) (ih (by omega))).1
  apply List.ext_getElem?
  intro s
  unfold backL
  rw [List.getElem?_map]
  by_cases hs : s < T.length
  · rw [List.getElem?_range (by omega), (main s hs (all s (by omega))).2]; rfl
  · rw [List.getElem?_eq_none (by simp; omega), List.getElem?_eq_none (by omega)]; rfl
/-! ### the reference's table -/
/-- after k rounds the table holds the first k bytes of the turns, in order -/
def TabR (last : List Nat) (a k : Nat) (rows : List (List Nat)) : Prop := ∀ T r, Byt T → Ord T r → last = r.map (lastT T) → a = r.idxOf 0 → 0 < T.length → rows = r.map fun i => (trn T i).take k
theorem tab_zero {last : List Nat} {a : Nat} : TabR last a 0 (List.replicate last.length []) := fun T r hT hr hl ha h0 => by
  rw [hl, List.length_map]
  apply List.ext_getElem (by simp)
  intro i h1 h2
  simp
theorem tab_step {last : List Nat} {a k : Nat} {rows rows' : List (List Nat)} (h : TabR last a k rows) (hk : k < last.length) (hp : rows'.Perm (List.zipWith (fun x y => x :: y) last rows)) (hs : rows'.Pairwise (fun x y => nv x ≤ nv y)) : TabR last a (k + 1) rows' := fun T r hT hr hl ha h0 => by
  have e := h T r hT hr hl ha h0
  have hlen : last.length = T.length := by rw [hl, List.length_map, hr.len]
  have ez : List.zipWith (fun x y => x :: y) last rows = r.map fun i => (trn T (prv T.length i)).take (k + 1) := by
    rw [e, hl]
    apply List.ext_getElem (by simp)
    intro i h1 h2
    have hi : i < r.length := by simpa using h2
    simp only [List.getElem_zipWith, List.getElem_map]
    obtain ⟨u, u1, u2, u3⟩ := trn_prv (hr.lt (List.getElem_mem hi))
    rw [u2, List.take_succ_cons]
    congr 1
    rw [u1, List.take_append_of_le_length (by omega)]
  have hp2 : rows'.Perm (r.map fun i => (trn T i).take (k + 1)) := by
    rw [ez] at hp
    have := hr.prv_rows.map (fun l => l.take (k + 1))
    rw [List.map_map, List.map_map] at this
    exact hp.trans this
  have hmem : ∀ x ∈ rows', x.length = k + 1 ∧ Byt x := fun x hx => by
    obtain ⟨i, hi, rfl⟩ := List.mem_map.1 (hp2.mem_iff.1 hx)
    have := trn_len (T := T) (i := i) (Nat.le_of_lt (hr.lt hi))
    exact ⟨by rw [List.length_take, this]; omega, (trn_byt hT i).take _⟩
  refine sorted_uniq nv hp2 hs ?_ ?_
  · rw [List.pairwise_map]
    refine List.Pairwise.imp_of_mem ?_ hr.ord
    intro x y hx hy hxy
    have lx := trn_len (T := T) (i := x) (Nat.le_of_lt (hr.lt hx))
    have ly := trn_len (T := T) (i := y) (Nat.le_of_lt (hr.lt hy))
    rw [kT_lt (hr.lt hx) (hr.lt hy)] at hxy
    rw [nv_take (trn_byt hT x) (by omega), nv_take (trn_byt hT y) (by omega), lx, ly]
    exact Nat.div_le_div_right (by omega)
  · intro x hx y hy e
    exact nv_inj (by rw [(hmem x hx).1, (hmem y hy).1]) (hmem x hx).2 (hmem y hy).2 e
theorem tab_end {last : List Nat} {a : Nat} {rows : List (List Nat)} (h : TabR last a last.length rows) {T : List Nat} (hT : Byt T) (ht : TurnR T last a) (h0 : 0 < last.length) : rows[a]? = some T := by
  obtain ⟨r, h1, h2, h3⟩ := ht
  have hlen : last.length = T.length := by rw [h2, List.length_map, h1.len]
  rw [h T r hT h1 h2 h3 (by omega), List.getElem?_map, h3]
  have hm : 0 ∈ r := h1.perm.mem_iff.2 (List.mem_range.2 (by omega))
  have hlt := List.idxOf_lt_length_of_mem hm
  rw [List.getElem?_eq_getElem hlt, List.getElem_idxOf]
  simp only [Option.map_some]
  rw [trn_zero, hlen, List.take_length]
end Go.Proofs.Ytdidahafbcddeaa

/-
  What kraft.Make's order by sorting and the reference's order by sizes have in common: plain Lean.
-/
import Derived.Test.YtdidahafbcddeaaAlph
import Derived.Test.YtdidahafbcddeaaBare
import Derived.Sort.LotA
set_option linter.unusedVariables false
namespace Go.Proofs.Ytdidahafbcddeaa
open Go.Sort

section
variable {n : Nat} (key : Fin (n + 1) → Nat)
def ltK (x y : Fin (n + 1)) : Bool := decide (key x < key y)
def ltL (x y : Fin (n + 1)) : Bool := decide (key x < key y ∨ key x = key y ∧ x.val < y.val)
theorem swo_ltL : SWO (ltL key) where
  irrefl x := by simp [ltL]
  trans x y z h1 h2 := by simp only [ltL, decide_eq_true_eq] at *; omega
  ntrans x y z h1 h2 := by simp only [ltL, decide_eq_false_iff_not] at *; omega
theorem insInner_lex (a : Nat) : ∀ (j : Nat) (d : Array (Fin (n + 1))), j < d.size → (∀ p, p < j → d[p]!.val < d[j]!.val) → insInner (ltK key) a j d = insInner (ltL key) a j d
  | 0, d, _, _ => by rw [insInner, insInner]
  | j + 1, d, hj, h => by
    rw [insInner, insInner]
    have h1 := h j (by omega)
    have e : ltK key d[j + 1]! d[j]! = ltL key d[j + 1]! d[j]! := by
      unfold ltK ltL
      rw [Bool.eq_iff_iff]; simp only [decide_eq_true_eq]; omega
    rw [e]
    have ih := insInner_lex a j (swp d (j + 1) j) (by rw [swp_size]; omega) (by
      intro p hp
      rw [swp_get d hj (by omega), swp_get d hj (by omega), if_pos rfl, if_neg (by omega), if_neg (by omega)]
      exact h p (by omega))
    rw [ih]
theorem insInner_keep (lt : Fin (n + 1) → Fin (n + 1) → Bool) (a B : Nat) : ∀ (j : Nat) (d : Array (Fin (n + 1))), j < d.size →
    (insInner lt a j d).size = d.size ∧ (∀ p, j < p → (insInner lt a j d)[p]! = d[p]!) ∧ ((∀ p, p ≤ j → d[p]!.val < B) → ∀ p, p ≤ j → (insInner lt a j d)[p]!.val < B)
  | 0, d, _ => by rw [insInner]; exact ⟨rfl, fun _ _ => rfl, fun h => h⟩
  | j + 1, d, hj => by
    rw [insInner]
    split
    · obtain ⟨h1, h2, h3⟩ := insInner_keep lt a B j (swp d (j + 1) j) (by rw [swp_size]; omega)
      have g := swp_get d hj (show j < d.size by omega)
      refine ⟨by rw [h1, swp_size], fun p hp => ?_, fun h p hp => ?_⟩
      · rw [h2 p (by omega), g, if_neg (by omega), if_neg (by omega)]
      · have hb : ∀ q, q ≤ j + 1 → (swp d (j + 1) j)[q]!.val < B := by
          intro q hq
          rw [g]
          split
          · exact h _ (by omega)
          · split
            · exact h _ (by omega)
            · exact h _ hq
        rcases Nat.lt_or_ge j p with hjp | hjp
        · rw [h2 p hjp]; exact hb p hp
        · exact h3 (fun q hq => hb q (by omega)) p hjp
    · exact ⟨rfl, fun _ _ => rfl, fun h => h⟩
theorem insOuter_lex (a b : Nat) : ∀ (k i : Nat) (d : Array (Fin (n + 1))), b - i = k → a < i → b ≤ d.size → (∀ p, p < i → d[p]!.val < i) → (∀ p, i ≤ p → p < b → d[p]!.val = p) → insOuter (ltK key) a b i d = insOuter (ltL key) a b i d
  | 0, i, d, hk, _, _, _, _ => by
    conv => lhs; rw [insOuter, if_neg (by omega)]
    conv => rhs; rw [insOuter, if_neg (by omega)]
  | k + 1, i, d, hk, ha, hb, h1, h2 => by
    conv => lhs; rw [insOuter, if_pos (by omega)]
    conv => rhs; rw [insOuter, if_pos (by omega)]
    have hi := h2 i (by omega) (by omega)
    rw [insInner_lex key a i d (by omega) (fun p hp => by have := h1 p hp; omega)]
    obtain ⟨k1, k2, k3⟩ := insInner_keep (ltL key) a (i + 1) i d (by omega)
    refine insOuter_lex a b k (i + 1) _ (by omega) (by omega) (by omega) ?_ ?_
    · intro p hp
      refine k3 (fun q hq => ?_) p (by omega)
      rcases Nat.lt_or_ge q i with h | h
      · have := h1 q h; omega
      · obtain rfl : q = i := by omega
        omega
    · intro p hp hp2
      rw [k2 p (by omega)]
      exact h2 p (by omega) hp2
/-- what the stable sort of 0 .. n by key comes to -/
theorem stable_lex (d : Array (Fin (n + 1))) (hs : d.size = n + 1) (hd : ∀ p, p < n + 1 → d[p]!.val = p) :
    (insertionSort (ltK key) d 0 (n + 1)).toList.Perm d.toList ∧ (insertionSort (ltK key) d 0 (n + 1)).toList.Pairwise (fun x y => ltL key y x = false) := by
  have e : insertionSort (ltK key) d 0 (n + 1) = insertionSort (ltL key) d 0 (n + 1) := by
    unfold insertionSort
    refine insOuter_lex key 0 (n + 1) _ 1 d rfl (by omega) (by omega) (fun p hp => ?_) (fun p _ hp => hd p hp)
    obtain rfl : p = 0 := by omega
    rw [hd 0 (by omega)]; omega
  rw [e]
  obtain ⟨⟨p1, _, p3⟩, so⟩ := insertionSort_holds (swo_ltL key) d 0 (n + 1) (by omega) (by omega)
  refine ⟨?_, ?_⟩
  · have hx : ∀ (X : Array (Fin (n + 1))) (m : Nat), X.size = m → X.extract 0 m = X := fun X m h => by subst h; exact Array.extract_size
    rwa [hx _ _ (p1.trans hs), hx _ _ hs] at p3
  · rw [List.pairwise_iff_getElem]
    intro i j hi hj hij
    have hi' : i < (insertionSort (ltL key) d 0 (n + 1)).size := by simpa using hi
    have hj' : j < (insertionSort (ltL key) d 0 (n + 1)).size := by simpa using hj
    have := so i j (by omega) hij (by omega)
    rw [getElem!_pos _ j hj', getElem!_pos _ i hi'] at this
    simpa using this
end

/-! ### the code: plain words -/
/-- the room that is taken ahead of symbol i of s bits -/
def atS (ns : List Nat) (s i : Nat) : Nat := ((List.range ns.length).map fun j => if ns.getD j 0 < s ∨ ns.getD j 0 = s ∧ j < i then 2 ^ (8 - ns.getD j 0) else 0).sum
def kmW (ns : List Nat) (j : Nat) : List Bool := digitsL (atS ns (ns.getD j 0) j / 2 ^ (8 - ns.getD j 0)) (ns.getD j 0)
theorem sum_point {N i : Nat} (hi : i < N) (f g : Nat → Nat) (v : Nat) (h : ∀ j, j < N → g j = f j + if j = i then v else 0) : ((List.range N).map g).sum = ((List.range N).map f).sum + v := by
  induction N with
  | zero => omega
  | succ N ih =>
    rw [List.range_succ, List.map_append, List.map_append, List.sum_append, List.sum_append]
    simp only [List.map_cons, List.map_nil, List.sum_cons, List.sum_nil, Nat.add_zero]
    rw [h N (by omega)]
    by_cases e : N = i
    · subst e
      rw [if_pos rfl]
      have : ((List.range N).map g) = ((List.range N).map f) := List.map_congr_left fun j hj => by
        have hj := List.mem_range.1 hj
        rw [h j (by omega), if_neg (by omega), Nat.add_zero]
      rw [this]; omega
    · rw [if_neg e, ih (by omega) (fun j hj => h j (by omega))]; omega
theorem sum_le {N : Nat} (f g : Nat → Nat) (h : ∀ j, j < N → f j ≤ g j) : ((List.range N).map f).sum ≤ ((List.range N).map g).sum := by
  induction N with
  | zero => simp
  | succ N ih =>
    rw [List.range_succ, List.map_append, List.map_append, List.sum_append, List.sum_append]
    have := ih (fun j hj => h j (by omega))
    have := h N (by omega)
    simp; omega
theorem atS_same {ns : List Nat} {s i : Nat} (hi : i < ns.length) (h : ns.getD i 0 = s) : atS ns s (i + 1) = atS ns s i + 2 ^ (8 - s) := by
  unfold atS
  refine sum_point hi _ _ _ fun j hj => ?_
  by_cases e : j = i
  · subst e
    rw [if_pos (by omega), if_neg (by omega), if_pos rfl, h]; omega
  · rw [if_neg e]
    by_cases c : ns.getD j 0 < s ∨ ns.getD j 0 = s ∧ j < i
    · rw [if_pos c, if_pos (by omega), Nat.add_zero]
    · rw [if_neg c, if_neg (by omega)]
theorem atS_other {ns : List Nat} {s i : Nat} (h : ns.getD i 0 ≠ s) : atS ns s (i + 1) = atS ns s i := by
  unfold atS
  congr 1
  refine List.map_congr_left fun j hj => ?_
  by_cases c : ns.getD j 0 < s ∨ ns.getD j 0 = s ∧ j < i
  · rw [if_pos c, if_pos (by omega)]
  · rw [if_neg c, if_neg (by
      by_cases e : j = i
      · subst e; omega
      · omega)]
theorem atS_end (ns : List Nat) (s : Nat) : atS ns s ns.length = atS ns (s + 1) 0 := by
  unfold atS
  congr 1
  refine List.map_congr_left fun j hj => ?_
  have hj := List.mem_range.1 hj
  by_cases c : ns.getD j 0 < s ∨ ns.getD j 0 = s ∧ j < ns.length
  · rw [if_pos c, if_pos (by omega)]
  · rw [if_neg c, if_neg (by omega)]
theorem atS_zero (ns : List Nat) : atS ns 0 0 = 0 := by
  unfold atS
  have : ((List.range ns.length).map fun j => if ns.getD j 0 < 0 ∨ ns.getD j 0 = 0 ∧ j < 0 then 2 ^ (8 - ns.getD j 0) else 0) = (List.range ns.length).map fun _ => 0 := List.map_congr_left fun j _ => if_neg (by omega)
  rw [this]
  generalize ns.length = N
  induction N with
  | zero => rfl
  | succ N ih => rw [List.range_succ, List.map_append, List.sum_append, ih]; rfl
def kTot (ns : List Nat) : Nat := (ns.map fun k => 2 ^ (8 - k)).sum
theorem range_getD (ns : List Nat) (f : Nat → Nat) : (List.range ns.length).map (fun j => f (ns.getD j 0)) = ns.map f := by
  apply List.ext_getElem (by simp)
  intro i h1 h2
  have : i < ns.length := by simpa using h2
  simp [List.getD, List.getElem?_eq_getElem this]
/-- the room is enough -/
theorem atS_room {ns : List Nat} {i : Nat} (hi : i < ns.length) : atS ns (ns.getD i 0) i + 2 ^ (8 - ns.getD i 0) ≤ kTot ns := by
  rw [← atS_same hi rfl]
  unfold atS kTot
  rw [← range_getD ns fun k => 2 ^ (8 - k)]
  refine sum_le _ _ fun j _ => ?_
  split
  · omega
  · exact Nat.zero_le _
theorem sum_dvd (d : Nat) (l : List Nat) (h : ∀ x ∈ l, d ∣ x) : d ∣ l.sum := by
  induction l with
  | nil => simp
  | cons x l ih => rw [List.sum_cons]; exact Nat.dvd_add (h x (List.mem_cons_self ..)) (ih fun y hy => h y (List.mem_cons_of_mem _ hy))
theorem atS_dvd {ns : List Nat} {s i : Nat} (hs : s ≤ 8) : 2 ^ (8 - s) ∣ atS ns s i := by
  unfold atS
  apply sum_dvd
  intro x hx
  obtain ⟨j, _, rfl⟩ := List.mem_map.1 hx
  split
  · exact Nat.pow_dvd_pow 2 (by omega)
  · exact Nat.dvd_zero _
theorem atS_div {ns : List Nat} {s i : Nat} (hs : s ≤ 8) : atS ns s i / 2 ^ (8 - s) * 2 ^ (8 - s) = atS ns s i := Nat.div_mul_cancel (atS_dvd hs)

/-! ### digits and beginnings -/
theorem digits_inj : ∀ (m a b : Nat), a < 2 ^ m → b < 2 ^ m → digitsL a m = digitsL b m → a = b := by
  intro m
  induction m with
  | zero => intro a b h1 h2 _; simp at h1 h2; omega
  | succ m ih =>
    intro a b h1 h2 h
    rw [digits_cons, digits_cons] at h
    injection h with e1 e2
    have hp := Nat.pow_pos (n := m) (show 0 < 2 by omega)
    have := ih _ _ (Nat.mod_lt a hp) (Nat.mod_lt b hp) e2
    have ea := Nat.div_add_mod a (2 ^ m)
    have eb := Nat.div_add_mod b (2 ^ m)
    have ha : a / 2 ^ m < 2 := by rw [Nat.div_lt_iff_lt_mul hp]; rw [Nat.pow_succ] at h1; omega
    have hb : b / 2 ^ m < 2 := by rw [Nat.div_lt_iff_lt_mul hp]; rw [Nat.pow_succ] at h2; omega
    unfold bitB at e1
    rw [Nat.mod_eq_of_lt ha, Nat.mod_eq_of_lt hb] at e1
    have c01 : ∀ q : Nat, q < 2 → q = 0 ∨ q = 1 := fun q hq => by omega
    have : a / 2 ^ m = b / 2 ^ m := by
      rcases c01 _ ha with h | h <;> rcases c01 _ hb with h' | h' <;> rw [h, h'] at e1 ⊢ <;> simp at e1
    rw [← ea, ← eb, this]; omega
theorem digits_take {m n x : Nat} (h : m ≤ n) : (digitsL x n).take m = digitsL (x / 2 ^ (n - m)) m := by
  unfold digitsL
  apply List.ext_getElem?
  intro j
  by_cases hj : j < m
  · rw [List.getElem?_take_of_lt hj, List.getElem?_map, List.getElem?_map, List.getElem?_range hj, List.getElem?_range (by omega)]
    simp only [Option.map_some]
    unfold bitB
    rw [Nat.div_div_eq_div_mul, ← Nat.pow_add, show n - m + (m - 1 - j) = n - 1 - j by omega]
  · rw [List.getElem?_eq_none (by simp; omega), List.getElem?_eq_none (by simp; omega)]
theorem beg_iff {m n y x : Nat} (h : m ≤ n) (hy : y < 2 ^ m) (hx : x < 2 ^ n) : begB (digitsL y m) (digitsL x n) = decide (x / 2 ^ (n - m) = y) := by
  unfold begB
  rw [digitsL_len, digitsL_len, decide_eq_true h, Bool.true_and, digits_take h]
  have hx2 : x / 2 ^ (n - m) < 2 ^ m := by
    rw [Nat.div_lt_iff_lt_mul (Nat.pow_pos (by omega)), ← Nat.pow_add, show m + (n - m) = n by omega]; exact hx
  rw [Bool.eq_iff_iff]; simp only [decide_eq_true_eq]
  constructor
  · intro e; exact (digits_inj m _ _ hy hx2 e).symm
  · intro e; rw [e]
def InvB (ls : List (List Bool)) (S s : Nat) : Prop := ∀ m x, s ≤ m → m ≤ 8 → x < 2 ^ m → (ls.all fun v => !begB v (digitsL x m)) = decide (S ≤ x * 2 ^ (8 - m))
theorem InvB_nil : InvB [] 0 0 := fun m x _ _ _ => by simp
theorem InvB_more {ls : List (List Bool)} {S s t : Nat} (h : InvB ls S s) (ht : s ≤ t) : InvB ls S t := fun m x h1 h2 h3 => h m x (by omega) h2 h3
theorem InvB_step {ls : List (List Bool)} {S s x0 : Nat} (h : InvB ls S s) (hs : s ≤ 8) (hx : x0 < 2 ^ s) (hS : S = x0 * 2 ^ (8 - s)) : InvB (ls ++ [digitsL x0 s]) (S + 2 ^ (8 - s)) s := by
  intro m x h1 h2 h3
  rw [List.all_append, h m x h1 h2 h3]
  simp only [List.all_cons, List.all_nil, Bool.and_true]
  rw [beg_iff h1 hx h3, hS]
  have e : 2 ^ (8 - s) = 2 ^ (m - s) * 2 ^ (8 - m) := by rw [← Nat.pow_add]; congr 1; omega
  have hp := Nat.pow_pos (n := 8 - m) (show 0 < 2 by omega)
  have hq := Nat.pow_pos (n := m - s) (show 0 < 2 by omega)
  have a1 : x0 * 2 ^ (8 - s) ≤ x * 2 ^ (8 - m) ↔ x0 ≤ x / 2 ^ (m - s) := by
    rw [e, ← Nat.mul_assoc, Nat.mul_le_mul_right_iff hp, Nat.le_div_iff_mul_le hq]
  have a2 : x0 * 2 ^ (8 - s) + 2 ^ (8 - s) ≤ x * 2 ^ (8 - m) ↔ x0 + 1 ≤ x / 2 ^ (m - s) := by
    rw [← Nat.succ_mul, e, ← Nat.mul_assoc, Nat.mul_le_mul_right_iff hp, Nat.le_div_iff_mul_le hq]
  rw [Bool.eq_iff_iff]
  simp only [Bool.and_eq_true, decide_eq_true_eq, Bool.not_eq_true', decide_eq_false_iff_not]
  rw [a1, a2]
  omega
/-- what ordering by sorting and by sizes have in common -/
theorem take_sum {n : Nat} {ns : List Nat} (hn : ns.length = n + 1) {r d : List (Fin (n + 1))} (hd : d = List.finRange (n + 1)) (hp : r.Perm d) (hw : r.Pairwise (fun x y => ltL (fun i => ns.getD i.val 0) y x = false)) {t : Nat} {i : Fin (n + 1)} (ht : r[t]? = some i) :
    ((r.take t).map fun j => 2 ^ (8 - ns.getD j.val 0)).sum = atS ns (ns.getD i.val 0) i.val := by
  subst hd
  have hnd : r.Nodup := hp.nodup_iff.2 (List.nodup_finRange _)
  have e1 : r.take t = r.filter fun j => ltL (fun i => ns.getD i.val 0) j i := by
    obtain ⟨h1, h2⟩ := List.getElem?_eq_some_iff.1 ht
    conv => rhs; rw [← List.take_append_drop t r]
    rw [List.filter_append]
    have f1 : (r.take t).filter (fun j => ltL (fun i => ns.getD i.val 0) j i) = r.take t := by
      rw [List.filter_eq_self]
      intro j hj
      obtain ⟨k, hk, rfl⟩ := List.mem_iff_getElem.1 hj
      have hk2 : k < t ∧ k < r.length := by simp at hk; omega
      rw [List.getElem_take]
      have := List.pairwise_iff_getElem.1 hw k t hk2.2 h1 hk2.1
      have hne : r[k] ≠ r[t] := fun e => by have := (List.getElem_inj hnd).1 e; omega
      have hne2 : r[k].val ≠ r[t].val := fun e => hne (Fin.ext e)
      rw [h2] at this hne2
      simp only [ltL, decide_eq_false_iff_not, decide_eq_true_eq] at *
      omega
    have f2 : (r.drop t).filter (fun j => ltL (fun i => ns.getD i.val 0) j i) = [] := by
      rw [List.filter_eq_nil_iff]
      intro j hj
      obtain ⟨k, hk, rfl⟩ := List.mem_iff_getElem.1 hj
      have hk2 : t + k < r.length := by simp at hk; omega
      rw [List.getElem_drop]
      rcases Nat.eq_zero_or_pos k with h0 | h0
      · subst h0
        simp only [Nat.add_zero, h2]
        simp [ltL]
      · have := List.pairwise_iff_getElem.1 hw t (t + k) h1 hk2 (by omega)
        rw [h2] at this
        rw [this]; simp
    rw [f1, f2, List.append_nil]
  rw [e1]
  have e2 := ((hp.filter (fun j => ltL (fun i => ns.getD i.val 0) j i)).map fun j : Fin (n + 1) => 2 ^ (8 - ns.getD j.val 0)).sum_nat
  rw [e2]
  have e3 : ∀ l : List (Fin (n + 1)), ((l.filter fun j => ltL (fun i => ns.getD i.val 0) j i).map fun j => 2 ^ (8 - ns.getD j.val 0)).sum = (l.map fun j => if ns.getD j.val 0 < ns.getD i.val 0 ∨ ns.getD j.val 0 = ns.getD i.val 0 ∧ j.val < i.val then 2 ^ (8 - ns.getD j.val 0) else 0).sum := by
    intro l
    induction l with
    | nil => rfl
    | cons a l ih =>
      rw [List.filter_cons, List.map_cons, List.sum_cons]
      by_cases c : ns.getD a.val 0 < ns.getD i.val 0 ∨ ns.getD a.val 0 = ns.getD i.val 0 ∧ a.val < i.val
      · rw [if_pos (by simpa [ltL] using c), if_pos c, List.map_cons, List.sum_cons, ih]
      · rw [if_neg (by simpa [ltL] using c), if_neg c, ih, Nat.zero_add]
  rw [e3]
  unfold atS
  rw [hn]
  congr 1
  apply List.ext_getElem (by simp)
  intro k h1 h2
  simp
end Go.Proofs.Ytdidahafbcddeaa

/-
  The plain law of slices.symMergeCmpFunc: exchange of two ranges, rotation, the merge's parts; sorted by a key.
-/
import Derived.Sort.LotA
set_option linter.unusedVariables false
namespace Go.Proofs.Ytdidahafbcddeaa
open Go.Sort

section
variable {α : Type} [Inhabited α]
/-- two ranges of n elements exchanged -/
def swR (d : Array α) (a b : Nat) : Nat → Array α
  | 0 => d
  | n + 1 => swp (swR d a b n) (a + n) (b + n)
theorem swR_size (d : Array α) (a b : Nat) : ∀ n, (swR d a b n).size = d.size
  | 0 => rfl
  | n + 1 => by rw [swR, swp_size, swR_size]
theorem swR_get (d : Array α) {a b : Nat} : ∀ n, a + n ≤ b → b + n ≤ d.size → ∀ k, (swR d a b n)[k]! = if a ≤ k ∧ k < a + n then d[k + (b - a)]! else if b ≤ k ∧ k < b + n then d[k - (b - a)]! else d[k]!
  | 0, h1, h2, k => by
    rw [if_neg (by omega), if_neg (by omega)]; rfl
  | n + 1, h1, h2, k => by
    rw [swR, swp_get _ (by rw [swR_size]; omega) (by rw [swR_size]; omega)]
    have ih := swR_get d (a := a) (b := b) n (by omega) (by omega)
    by_cases e1 : k = b + n
    · subst e1
      rw [if_pos rfl, ih, if_neg (by omega), if_neg (by omega), if_neg (by omega), if_pos (by omega)]
      congr 1; omega
    · rw [if_neg e1]
      by_cases e2 : k = a + n
      · subst e2
        rw [if_pos rfl, ih, if_neg (by omega), if_neg (by omega), if_pos (by omega)]
        congr 1; omega
      · rw [if_neg e2, ih]
        by_cases c1 : a ≤ k ∧ k < a + n
        · rw [if_pos c1, if_pos (by omega)]
        · rw [if_neg c1]
          have c3 : ¬ (a ≤ k ∧ k < a + (n + 1)) := by omega
          by_cases c2 : b ≤ k ∧ k < b + n
          · rw [if_pos c2, if_neg c3, if_pos (by omega)]
          · rw [if_neg c2, if_neg c3, if_neg (by omega)]
theorem swR_perm (d : Array α) {a b lo hi : Nat} : ∀ n, lo ≤ a → a + n ≤ hi → lo ≤ b → b + n ≤ hi → hi ≤ d.size → PermIn lo hi d (swR d a b n)
  | 0, _, _, _, _, _ => permIn_refl _ _ _
  | n + 1, h1, h2, h3, h4, h5 => permIn_trans _ _ _ _ _ (swR_perm d n h1 (by omega) h3 (by omega) h5) (swp_permIn _ _ _ _ _ (by omega) (by omega) (by omega) (by omega) (by rw [swR_size]; exact h5))
/-- what stands at place k when the i elements ahead of m and the j from m on have changed places -/
def rotT (d : Array α) (m i j k : Nat) : α := if k < m - i then d[k]! else if k < m - i + j then d[k + i]! else if k < m + j then d[k - j]! else d[k]!
theorem rot_gt {d : Array α} {m i j : Nat} (h : j < i) (h1 : i ≤ m) (h2 : m + j ≤ d.size) (k : Nat) : rotT (swR d (m - i) m j) m (i - j) j k = rotT d m i j k := by
  have g := swR_get d (a := m - i) (b := m) j (by omega) h2
  have e : m - (m - i) = i := by omega
  rw [e] at g
  unfold rotT
  by_cases c1 : k < m - i
  · rw [if_pos (by omega), if_pos c1, g, if_neg (by omega), if_neg (by omega)]
  · rw [if_neg c1]
    by_cases c2 : k < m - i + j
    · rw [if_pos (by omega), if_pos c2, g, if_pos (by omega)]
    · rw [if_neg (by omega), if_neg c2]
      by_cases c3 : k < m - (i - j) + j
      · rw [if_pos c3, if_pos (by omega), g, if_neg (by omega), if_pos (by omega)]
        congr 1; omega
      · rw [if_neg c3]
        by_cases c4 : k < m + j
        · rw [if_pos c4, if_pos c4, g, if_neg (by omega), if_neg (by omega)]
        · rw [if_neg c4, if_neg c4, g, if_neg (by omega), if_neg (by omega)]
theorem rot_lt {d : Array α} {m i j : Nat} (h : i < j) (h1 : i ≤ m) (h2 : m + j ≤ d.size) (k : Nat) : rotT (swR d (m - i) (m + j - i) i) m i (j - i) k = rotT d m i j k := by
  have g := swR_get d (a := m - i) (b := m + j - i) i (by omega) (by omega)
  have e : m + j - i - (m - i) = j := by omega
  rw [e] at g
  unfold rotT
  by_cases c1 : k < m - i
  · rw [if_pos c1, if_pos c1, g, if_neg (by omega), if_neg (by omega)]
  · rw [if_neg c1, if_neg c1]
    by_cases c2 : k < m - i + (j - i)
    · rw [if_pos c2, if_pos (by omega), g, if_neg (by omega), if_neg (by omega)]
    · rw [if_neg c2]
      by_cases c3 : k < m + (j - i)
      · rw [if_pos c3, if_pos (by omega), g, if_pos (by omega)]
        congr 1; omega
      · rw [if_neg c3]
        by_cases c4 : k < m + j
        · rw [if_neg (by omega), if_pos c4, g, if_neg (by omega), if_pos (by omega)]
        · rw [if_neg (by omega), if_neg c4, g, if_neg (by omega), if_neg (by omega)]
theorem rot_eq {d : Array α} {m i : Nat} (h1 : i ≤ m) (h2 : m + i ≤ d.size) (k : Nat) : (swR d (m - i) m i)[k]! = rotT d m i i k := by
  have g := swR_get d (a := m - i) (b := m) i (by omega) h2
  have e : m - (m - i) = i := by omega
  rw [e] at g
  rw [g]
  unfold rotT
  by_cases c1 : k < m - i
  · rw [if_neg (by omega), if_neg (by omega), if_pos c1]
  · rw [if_neg c1]
    by_cases c2 : k < m - i + i
    · rw [if_pos (by omega), if_pos c2]
    · rw [if_neg (by omega), if_neg c2]
      by_cases c3 : k < m + i
      · rw [if_pos (by omega), if_pos c3]
      · rw [if_neg (by omega), if_neg c3]
theorem rot_none_left (d : Array α) (m j k : Nat) : rotT d m 0 j k = d[k]! := by
  unfold rotT
  by_cases c1 : k < m - 0
  · rw [if_pos c1]
  · rw [if_neg c1]
    by_cases c2 : k < m - 0 + j
    · rw [if_pos c2]; rfl
    · rw [if_neg c2, if_neg (by omega)]
theorem rot_none_right (d : Array α) (m i k : Nat) : rotT d m i 0 k = d[k]! := by
  unfold rotT
  by_cases c1 : k < m - i
  · rw [if_pos c1]
  · rw [if_neg c1, if_neg (by omega)]
    by_cases c2 : k < m + 0
    · rw [if_pos c2]; rfl
    · rw [if_neg c2]

variable (K : α → Nat) (lt : α → α → Prop)
/-- from a to b the keys do not fall -/
def Srt (a b : Nat) (d : Array α) : Prop := ∀ i j, a ≤ i → i < j → j < b → K d[i]! ≤ K d[j]!
/-- of an element of the right run and one of the left run the comparison tells the keys' order -/
def Crs (a m b : Nat) (d : Array α) : Prop := ∀ i j, a ≤ i → i < m → m ≤ j → j < b → (lt d[j]! d[i]! ↔ K d[j]! < K d[i]!)
variable {K lt}
theorem Srt.le {a b : Nat} {d : Array α} (h : Srt K a b d) {i j : Nat} (h1 : a ≤ i) (h2 : i ≤ j) (h3 : j < b) : K d[i]! ≤ K d[j]! := by
  rcases Nat.lt_or_ge i j with e | e
  · exact h i j h1 e h3
  · obtain rfl : i = j := by omega
    exact Nat.le_refl _
theorem Srt.sub {a b a' b' : Nat} {d : Array α} (h : Srt K a b d) (h1 : a ≤ a') (h2 : b' ≤ b) : Srt K a' b' d := fun i j g1 g2 g3 => h i j (by omega) g2 (by omega)
theorem Srt.congr {a b : Nat} {d e : Array α} (h : Srt K a b d) (he : ∀ k, a ≤ k → k < b → e[k]! = d[k]!) : Srt K a b e := fun i j g1 g2 g3 => by
  rw [he i g1 (by omega), he j (by omega) g3]; exact h i j g1 g2 g3
/-- two runs, each in order, all of the first at most all of the second -/
theorem Srt.join {a m b : Nat} {d : Array α} (h1 : Srt K a m d) (h2 : Srt K m b d) (h : ∀ i j, a ≤ i → i < m → m ≤ j → j < b → K d[i]! ≤ K d[j]!) : Srt K a b d := fun i j g1 g2 g3 => by
  rcases Nat.lt_or_ge j m with e | e
  · exact h1 i j g1 g2 e
  · rcases Nat.lt_or_ge i m with e2 | e2
    · exact h i j g1 e2 e g3
    · exact h2 i j e2 g2 g3
/-- what the search for the cut leaves -/
structure CutOK (K : α → Nat) (a m b s t : Nat) (d : Array α) : Prop where
  as : a ≤ s
  sm : s ≤ m
  mt : m ≤ t
  tb : t ≤ b
  left : ∀ i j, a ≤ i → i < s → t ≤ j → j < b → K d[i]! ≤ K d[j]!
  right : ∀ i j, s ≤ i → i < m → m ≤ j → j < t → K d[j]! ≤ K d[i]!
theorem cut_ok {a m b lo hi n s mid : Nat} {d : Array α} (h1 : Srt K a m d) (h2 : Srt K m b d) (hmid : mid = (a + b) / 2) (ham : a < m) (hmb : m < b) (hn : n = mid + m)
    (hl : (m > mid ∧ lo = n - b ∧ hi = mid) ∨ (m ≤ mid ∧ lo = a ∧ hi = m)) (g1 : lo ≤ s) (g2 : s ≤ hi) (i1 : s = lo ∨ K d[s - 1]! ≤ K d[n - s]!) (i2 : s = hi ∨ K d[n - 1 - s]! < K d[s]!) : CutOK K a m b s (n - s) d := by
  refine ⟨by omega, by omega, by omega, by omega, fun i j e1 e2 e3 e4 => ?_, fun i j e1 e2 e3 e4 => ?_⟩
  · rcases i1 with e | e
    · omega
    · have p1 := h1.le (i := i) (j := s - 1) e1 (by omega) (by omega)
      have p2 := h2.le (i := n - s) (j := j) (by omega) e3 e4
      omega
  · rcases i2 with e | e
    · omega
    · have p1 := h1.le (i := s) (j := i) (by omega) e1 e2
      have p2 := h2.le (i := j) (j := n - 1 - s) e3 (by omega) (by omega)
      omega
/-- the two halves behind the rotation -/
structure Halves (K : α → Nat) (lt : α → α → Prop) (a s mid t b : Nat) (e : Array α) : Prop where
  l1 : Srt K a s e
  l2 : Srt K s mid e
  lc : Crs K lt a s mid e
  r1 : Srt K mid t e
  r2 : Srt K t b e
  rc : Crs K lt mid t b e
  all : ∀ i j, a ≤ i → i < mid → mid ≤ j → j < b → K e[i]! ≤ K e[j]!
theorem halves {a m b s t mid : Nat} {d e : Array α} (h1 : Srt K a m d) (h2 : Srt K m b d) (hc : Crs K lt a m b d) (hk : CutOK K a m b s t d) (hmid : mid + m = s + t) (he : ∀ k, e[k]! = rotT d m (m - s) (t - m) k) : Halves K lt a s mid t b e := by
  obtain ⟨q1, q2, q3, q4, q5, q6⟩ := hk
  have e0 : ∀ k, k < s → e[k]! = d[k]! := fun k hk => by rw [he]; unfold rotT; rw [if_pos (by omega)]
  have e1 : ∀ k, s ≤ k → k < mid → e[k]! = d[k + (m - s)]! := fun k g1 g2 => by rw [he]; unfold rotT; rw [if_neg (by omega), if_pos (by omega)]
  have e2 : ∀ k, mid ≤ k → k < t → e[k]! = d[k - (t - m)]! := fun k g1 g2 => by rw [he]; unfold rotT; rw [if_neg (by omega), if_neg (by omega), if_pos (by omega)]
  have e3 : ∀ k, t ≤ k → e[k]! = d[k]! := fun k g1 => by rw [he]; unfold rotT; rw [if_neg (by omega), if_neg (by omega), if_neg (by omega)]
  refine ⟨fun i j g1 g2 g3 => ?_, fun i j g1 g2 g3 => ?_, fun i j g1 g2 g3 g4 => ?_, fun i j g1 g2 g3 => ?_, fun i j g1 g2 g3 => ?_, fun i j g1 g2 g3 g4 => ?_, fun i j g1 g2 g3 g4 => ?_⟩
  · rw [e0 i (by omega), e0 j g3]; exact h1 i j g1 g2 (by omega)
  · rw [e1 i g1 (by omega), e1 j (by omega) g3]; exact h2 _ _ (by omega) (by omega) (by omega)
  · rw [e0 i g2, e1 j g3 g4]; exact hc _ _ g1 (by omega) (by omega) (by omega)
  · rw [e2 i g1 (by omega), e2 j (by omega) g3]; exact h1 _ _ (by omega) (by omega) (by omega)
  · rw [e3 i g1, e3 j (by omega)]; exact h2 _ _ (by omega) (by omega) (by omega)
  · rw [e2 i g1 g2, e3 j g3]; exact hc _ _ (by omega) (by omega) (by omega) (by omega)
  · rcases Nat.lt_or_ge i s with c1 | c1
    · rw [e0 i c1]
      rcases Nat.lt_or_ge j t with c2 | c2
      · rw [e2 j g3 c2]; exact h1.le g1 (by omega) (by omega)
      · rw [e3 j c2]; exact q5 i j g1 c1 c2 g4
    · rw [e1 i c1 g2]
      rcases Nat.lt_or_ge j t with c2 | c2
      · rw [e2 j g3 c2]; exact q6 _ _ (by omega) (by omega) (by omega) (by omega)
      · rw [e3 j c2]; exact h2.le (by omega) (by omega) g4
/-- a half whose one part is empty is in order already -/
theorem Halves.skipL {a s mid t b : Nat} {e : Array α} (h : Halves K lt a s mid t b e) (hs : a ≤ s) (hm : s ≤ mid) (hn : ¬ (a < s ∧ s < mid)) : Srt K a mid e := by
  rcases Nat.lt_or_ge a s with c | c
  · obtain rfl : s = mid := by omega
    exact h.l1
  · obtain rfl : a = s := by omega
    exact h.l2
theorem Halves.skipR {a s mid t b : Nat} {e : Array α} (h : Halves K lt a s mid t b e) (hs : mid ≤ t) (hm : t ≤ b) (hn : ¬ (mid < t ∧ t < b)) : Srt K mid b e := by
  rcases Nat.lt_or_ge mid t with c | c
  · obtain rfl : t = b := by omega
    exact h.r1
  · obtain rfl : mid = t := by omega
    exact h.r2
/-- behind the merge of the left half -/
structure HalfR (K : α → Nat) (lt : α → α → Prop) (a mid t b : Nat) (e : Array α) : Prop where
  l : Srt K a mid e
  r1 : Srt K mid t e
  r2 : Srt K t b e
  rc : Crs K lt mid t b e
  all : ∀ i j, a ≤ i → i < mid → mid ≤ j → j < b → K e[i]! ≤ K e[j]!
theorem Halves.mid {a s mid t b : Nat} {e e' : Array α} (h : Halves K lt a s mid t b e) (hmid : mid ≤ e.size) (hmt : mid ≤ t) (hp : PermIn a mid e e') (hs : Srt K a mid e') : HalfR K lt a mid t b e' := by
  have g : ∀ k, mid ≤ k → e'[k]! = e[k]! := fun k hk => hp.2.1 k (.inr hk)
  refine ⟨hs, fun i j g1 g2 g3 => ?_, fun i j g1 g2 g3 => ?_, fun i j g1 g2 g3 g4 => ?_, fun i j g1 g2 g3 g4 => ?_⟩
  · rw [g i g1, g j (by omega)]; exact h.r1 i j g1 g2 g3
  · rw [g i (by omega), g j (by omega)]; exact h.r2 i j g1 g2 g3
  · rw [g i g1, g j (by omega)]; exact h.rc i j g1 g2 g3 g4
  · rw [g j g3]
    exact permIn_all e e' a mid (fun x => K x ≤ K e[j]!) hmid hp (fun i e1 e2 => h.all i j e1 e2 g3 g4) i g1 g2
theorem HalfR.fin {a mid t b : Nat} {e e' : Array α} (h : HalfR K lt a mid t b e) (hb : b ≤ e.size) (hp : PermIn mid b e e') (hs : Srt K mid b e') : Srt K a b e' := by
  have g : ∀ k, k < mid → e'[k]! = e[k]! := fun k hk => hp.2.1 k (.inl hk)
  refine Srt.join (fun i j g1 g2 g3 => ?_) hs (fun i j g1 g2 g3 g4 => ?_)
  · rw [g i (by omega), g j g3]; exact h.l i j g1 g2 g3
  · rw [g i g2]
    exact permIn_all e e' mid b (fun x => K e[i]! ≤ K x) hb hp (fun j e1 e2 => h.all i j g1 g2 e1 e2) j g3 g4
theorem HalfR.skipR {a mid t b : Nat} {e : Array α} (h : HalfR K lt a mid t b e) (hs : mid ≤ t) (hm : t ≤ b) (hn : ¬ (mid < t ∧ t < b)) : Srt K mid b e := by
  rcases Nat.lt_or_ge mid t with c | c
  · obtain rfl : t = b := by omega
    exact h.r1
  · obtain rfl : mid = t := by omega
    exact h.r2

/-! ### one element into a run -/
/-- the element of place a has been carried up to place k -/
structure Up (a b k : Nat) (d e : Array α) : Prop where
  perm : PermIn a b d e
  lo : ∀ j, a ≤ j → j < k → e[j]! = d[j + 1]!
  at_ : e[k]! = d[a]!
  hi : ∀ j, k < j → e[j]! = d[j]!
theorem Up.start {a b : Nat} {d : Array α} : Up a b a d d := ⟨permIn_refl _ _ _, fun j _ _ => by omega, rfl, fun _ _ => rfl⟩
theorem Up.step {a b k : Nat} {d e : Array α} (h : Up a b k d e) (hak : a ≤ k) (hk : k + 1 < b) (hb : b ≤ d.size) : Up a b (k + 1) d (swp e k (k + 1)) := by
  have hs : e.size = d.size := h.perm.1
  have g := swp_get e (i := k) (j := k + 1) (by omega) (by omega)
  refine ⟨permIn_trans _ _ _ _ _ h.perm (swp_permIn _ _ _ _ _ hak (by omega) (by omega) hk (by omega)), fun j h1 h2 => ?_, ?_, fun j h1 => ?_⟩
  · rw [g, if_neg (by omega)]
    by_cases e1 : j = k
    · subst e1; rw [if_pos rfl]; exact h.hi _ (by omega)
    · rw [if_neg e1]; exact h.lo j h1 (by omega)
  · rw [g, if_pos rfl]; exact h.at_
  · rw [g, if_neg (by omega), if_neg (by omega)]; exact h.hi j (by omega)
/-- carried up to where it belongs: all from the left run's end to place k are less, what stands behind is not -/
theorem Up.sorted {a b k : Nat} {d e : Array α} (h : Up a b k d e) (hr : Srt K (a + 1) b d) (hak : a ≤ k) (hkb : k < b) (h1 : ∀ j, a < j → j ≤ k → K d[j]! ≤ K d[a]!) (h2 : ∀ j, k < j → j < b → K d[a]! ≤ K d[j]!) : Srt K a b e := fun i j g1 g2 g3 => by
  rcases Nat.lt_or_ge j k with c | c
  · rw [h.lo i g1 (by omega), h.lo j (by omega) c]; exact hr _ _ (by omega) (by omega) (by omega)
  · by_cases ej : j = k
    · subst ej
      rw [h.lo i g1 g2, h.at_]; exact h1 _ (by omega) (by omega)
    · rw [h.hi j (by omega)]
      rcases Nat.lt_or_ge i k with c2 | c2
      · rw [h.lo i g1 c2]; exact hr.le (by omega) (by omega) g3
      · by_cases ei : i = k
        · subst ei; rw [h.at_]; exact h2 j (by omega) g3
        · rw [h.hi i (by omega)]; exact hr _ _ (by omega) g2 g3
/-- the element of place m has been carried down to place k -/
structure Dn (a b m k : Nat) (d e : Array α) : Prop where
  perm : PermIn a b d e
  lo : ∀ j, j < k → e[j]! = d[j]!
  at_ : e[k]! = d[m]!
  hi : ∀ j, k < j → j ≤ m → e[j]! = d[j - 1]!
theorem Dn.start {a b m : Nat} {d : Array α} : Dn a b m m d d := ⟨permIn_refl _ _ _, fun _ _ => rfl, rfl, fun j _ _ => by omega⟩
theorem Dn.step {a b m k : Nat} {d e : Array α} (h : Dn a b m (k + 1) d e) (hak : a ≤ k) (hk : k + 1 ≤ m) (hm : m < b) (hb : b ≤ d.size) : Dn a b m k d (swp e (k + 1) k) := by
  have hs : e.size = d.size := h.perm.1
  have g := swp_get e (i := k + 1) (j := k) (by omega) (by omega)
  refine ⟨permIn_trans _ _ _ _ _ h.perm (swp_permIn _ _ _ _ _ (by omega) (by omega) (by omega) (by omega) (by omega)), fun j h1 => ?_, ?_, fun j h1 h2 => ?_⟩
  · rw [g, if_neg (by omega), if_neg (by omega)]; exact h.lo j (by omega)
  · rw [g, if_pos rfl]; exact h.at_
  · rw [g, if_neg (by omega)]
    by_cases e1 : j = k + 1
    · subst e1; rw [if_pos rfl]; exact h.lo _ (by omega)
    · rw [if_neg e1]; exact h.hi j (by omega) h2
theorem Dn.sorted {a m k : Nat} {d e : Array α} (h : Dn a (m + 1) m k d e) (hr : Srt K a m d) (hak : a ≤ k) (hkm : k ≤ m) (h1 : ∀ j, a ≤ j → j < k → K d[j]! ≤ K d[m]!) (h2 : ∀ j, k ≤ j → j < m → K d[m]! ≤ K d[j]!) : Srt K a (m + 1) e := fun i j g1 g2 g3 => by
  rcases Nat.lt_or_ge j k with c | c
  · rw [h.lo i (by omega), h.lo j c]; exact hr _ _ g1 g2 (by omega)
  · by_cases ej : j = k
    · subst ej
      rw [h.lo i g2, h.at_]; exact h1 i g1 g2
    · rw [h.hi j (by omega) (by omega)]
      rcases Nat.lt_or_ge i k with c2 | c2
      · rw [h.lo i c2]; exact hr.le g1 (by omega) (by omega)
      · by_cases ei : i = k
        · subst ei; rw [h.at_]; exact h2 _ (by omega) (by omega)
        · rw [h.hi i (by omega) (by omega)]; exact hr _ _ (by omega) (by omega) (by omega)
end
end Go.Proofs.Ytdidahafbcddeaa

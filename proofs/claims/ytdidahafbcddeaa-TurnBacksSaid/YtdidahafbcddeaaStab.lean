/-
  The plain law of slices.stableCmpFunc: blocks in order, then merged pair by pair. Up to 64 elements.
-/
import Derived.Test.YtdidahafbcddeaaKraftl
import Derived.Test.YtdidahafbcddeaaSym
set_option linter.unusedVariables false
namespace Go.Proofs.Ytdidahafbcddeaa
open Go.Sort

section
variable {M : Nat} {key : Fin (M + 1) → Nat}
/-- key and index in one number -/
def keyI (key : Fin (M + 1) → Nat) (x : Fin (M + 1)) : Nat := key x * (M + 1) + x.val
theorem keyI_lt (x y : Fin (M + 1)) : keyI key x < keyI key y ↔ key x < key y ∨ key x = key y ∧ x.val < y.val := by
  unfold keyI
  have hx := x.isLt
  have hy := y.isLt
  rcases Nat.lt_trichotomy (key x) (key y) with h | h | h
  · have : (key x + 1) * (M + 1) ≤ key y * (M + 1) := Nat.mul_le_mul_right _ h
    rw [Nat.succ_mul] at this
    omega
  · rw [h]; omega
  · have : (key y + 1) * (M + 1) ≤ key x * (M + 1) := Nat.mul_le_mul_right _ h
    rw [Nat.succ_mul] at this
    omega
theorem keyI_inj {x y : Fin (M + 1)} (h : keyI key x = keyI key y) : x = y := by
  have h1 := keyI_lt (key := key) x y
  have h2 := keyI_lt (key := key) y x
  apply Fin.ext
  omega
/-- the boundary c parts the places as it parts the values -/
def SepAt (N c : Nat) (d : Array (Fin (M + 1))) : Prop := ∀ i, i < N → (i < c ↔ (d[i]!).val < c)
theorem SepAt.perm {N a b c : Nat} {d d' : Array (Fin (M + 1))} (h : SepAt N c d) (ha : SepAt N a d) (hb : SepAt N b d) (hp : PermIn a b d d') (hbN : b ≤ N) (hN : N ≤ d.size) (hc : c ≤ a ∨ b ≤ c) : SepAt N c d' := fun i hi => by
  rcases Nat.lt_or_ge i a with h1 | h1
  · rw [hp.2.1 i (.inl h1)]; exact h i hi
  · rcases Nat.lt_or_ge i b with h2 | h2
    · have hv : a ≤ (d'[i]!).val ∧ (d'[i]!).val < b := permIn_all d d' a b (fun x => a ≤ x.val ∧ x.val < b) (by omega) hp (fun j g1 g2 => by
        have e1 := ha j (by omega)
        have e2 := hb j (by omega)
        omega) i h1 h2
      omega
    · rw [hp.2.1 i (.inr h2)]; exact h i hi
theorem Crs.of_sep {N a m b : Nat} {d : Array (Fin (M + 1))} {lt : Fin (M + 1) → Fin (M + 1) → Prop} (hlt : ∀ x y, lt x y ↔ key x < key y) (h : SepAt N m d) (hb : b ≤ N) : Crs (keyI key) lt a m b d := fun i j h1 h2 h3 h4 => by
  have e1 := h i (by omega)
  have e2 := h j (by omega)
  rw [hlt, keyI_lt]
  omega
theorem Srt.perm_out {K : Fin (M + 1) → Nat} {a b x y : Nat} {d d' : Array (Fin (M + 1))} (h : Srt K x y d) (hp : PermIn a b d d') (ho : y ≤ a ∨ b ≤ x) : Srt K x y d' :=
  h.congr fun k h1 h2 => hp.2.1 k (by omega)
/-- one block by insertion -/
theorem ins_block {N a b : Nat} {d : Array (Fin (M + 1))} (hs : d.size = N) (hab : a ≤ b) (hb : b ≤ N) (h1 : ∀ p, p < a → (d[p]!).val < a) (h2 : ∀ p, a ≤ p → p < N → (d[p]!).val = p) :
    PermIn a b d (insertionSort (ltK key) d a b) ∧ Srt (keyI key) a b (insertionSort (ltK key) d a b) := by
  have e : insertionSort (ltK key) d a b = insertionSort (ltL key) d a b := by
    rcases Nat.lt_or_ge a b with h | h
    · unfold insertionSort
      refine insOuter_lex key a b _ (a + 1) d rfl (by omega) (by omega) (fun p hp => ?_) (fun p h3 h4 => h2 p (by omega) (by omega))
      rcases Nat.lt_or_ge p a with h3 | h3
      · have := h1 p h3; omega
      · have := h2 p h3 (by omega); omega
    · unfold insertionSort
      conv => lhs; rw [insOuter, if_neg (by omega)]
      conv => rhs; rw [insOuter, if_neg (by omega)]
  rw [e]
  obtain ⟨p1, so⟩ := insertionSort_holds (swo_ltL key) d a b hab (by omega)
  refine ⟨p1, fun i j g1 g2 g3 => Nat.not_lt.1 fun hh => ?_⟩
  have := so i j g1 g2 g3
  rw [keyI_lt] at hh
  simp only [ltL, decide_eq_false_iff_not] at this
  exact this hh
/-- blocks of 20 up to place a, the rest not touched yet -/
structure InsS (key : Fin (M + 1) → Nat) (N a : Nat) (d0 d : Array (Fin (M + 1))) : Prop where
  perm : PermIn 0 N d0 d
  same : ∀ i, a ≤ i → i < N → (d[i]!).val = i
  sep : ∀ q, SepAt N (q * 20) d
  srt : ∀ q, q * 20 < a → Srt (keyI key) (q * 20) (min (q * 20 + 20) N) d
/-- blocks of 2 s up to place a, of s from there on -/
structure Stg (key : Fin (M + 1) → Nat) (N s a : Nat) (d0 d : Array (Fin (M + 1))) : Prop where
  perm : PermIn 0 N d0 d
  sep2 : ∀ q, SepAt N (q * (2 * s)) d
  sep : ∀ q, a ≤ q * s → SepAt N (q * s) d
  srt2 : ∀ q, q * (2 * s) < a → Srt (keyI key) (q * (2 * s)) (min (q * (2 * s) + 2 * s) N) d
  srt : ∀ q, a ≤ q * s → Srt (keyI key) (q * s) (min (q * s + s) N) d
variable {N : Nat} {d0 d d' : Array (Fin (M + 1))}
theorem InsS.start (h : ∀ i, i < N → (d0[i]!).val = i) : InsS key N 0 d0 d0 := ⟨permIn_refl _ _ _, fun i _ hi => h i hi, fun q i hi => by rw [h i hi], fun q hq => by omega⟩
theorem InsS.below {a : Nat} (h : InsS key N a d0 d) (hq : ∃ p, a = p * 20) (haN : a ≤ N) : ∀ p, p < a → (d[p]!).val < a := fun i hi => by
  obtain ⟨p, rfl⟩ := hq
  exact (h.sep p i (by omega)).1 hi
theorem InsS.step {a b : Nat} (h : InsS key N a d0 d) (hs : d.size = N) (hq : ∃ p, a = p * 20) (hb : b = min (a + 20) N) (hp : PermIn a b d d') (hd : Srt (keyI key) a b d') : InsS key N b d0 d' := by
  obtain ⟨p, rfl⟩ := hq
  by_cases haN : p * 20 ≤ N
  · refine ⟨permIn_trans _ _ _ _ _ h.perm (permIn_mono _ _ _ _ _ _ (Nat.zero_le _) (by omega) (by omega) hp), fun i h1 h2 => ?_, fun q => ?_, fun q hq => ?_⟩
    · rw [hp.2.1 i (by omega)]; exact h.same i (by omega) h2
    · have hbS : SepAt N b d := by
        rcases (by omega : b = (p + 1) * 20 ∨ b = N) with e | e
        · rw [e]; exact h.sep (p + 1)
        · intro i hi
          rcases Nat.lt_or_ge i (p * 20) with c | c
          · have := (h.sep p i hi).1 c; omega
          · have := h.same i c hi; omega
      rcases (by omega : q * 20 ≤ p * 20 ∨ b ≤ q * 20) with c | c
      · exact SepAt.perm (h.sep q) (h.sep p) hbS hp (by omega) (by omega) (.inl c)
      · exact SepAt.perm (h.sep q) (h.sep p) hbS hp (by omega) (by omega) (.inr c)
    · rcases (by omega : q < p ∨ q = p) with c | c
      · exact (h.srt q (by omega)).perm_out hp (.inl (by omega))
      · subst c
        rw [← hb]; exact hd
  · have hbe : b = N := by omega
    subst hbe
    refine ⟨permIn_trans _ _ _ _ _ h.perm (permIn_mono _ _ _ _ _ _ (Nat.zero_le _) (Nat.le_refl _) (by omega) hp), fun i h1 h2 => by omega, fun q i hi => ?_, fun q hq => ?_⟩
    · rw [hp.2.1 i (by omega)]; exact h.sep q i hi
    · exact (h.srt q (by omega)).congr fun k g1 g2 => hp.2.1 k (by omega)
theorem InsS.stg {a : Nat} (h : InsS key N a d0 d) (ha : N ≤ a) : Stg key N 20 0 d0 d := by
  refine ⟨h.perm, fun q => ?_, fun q _ => h.sep q, fun q hq => by omega, fun q _ => ?_⟩
  · have := h.sep (q * 2)
    rwa [show q * 2 * 20 = q * (2 * 20) by omega] at this
  · rcases Nat.lt_or_ge (q * 20) a with c | c
    · exact h.srt q c
    · intro i j g1 g2 g3; omega
/-- what the merge of two blocks wants -/
theorem Stg.pair {s a m b : Nat} {lt : Fin (M + 1) → Fin (M + 1) → Prop} (h : Stg key N s a d0 d) (hlt : ∀ x y, lt x y ↔ key x < key y) (hs : s = 20 ∨ s = 40) (hq : ∃ p, a = p * (2 * s)) (hm : m = a + s) (hb : b = min (a + 2 * s) N) (hmN : m < N) :
    Srt (keyI key) a m d ∧ Srt (keyI key) m b d ∧ Crs (keyI key) lt a m b d := by
  obtain ⟨p, rfl⟩ := hq
  rcases hs with rfl | rfl
  · have h1 := h.srt (2 * p) (by omega)
    have h2 := h.srt (2 * p + 1) (by omega)
    have h3 := h.sep (2 * p + 1) (by omega)
    rw [show 2 * p * 20 = p * (2 * 20) by omega] at h1
    rw [show (2 * p + 1) * 20 = m by omega] at h2 h3
    rw [show min (p * (2 * 20) + 20) N = m by omega] at h1
    rw [show min (m + 20) N = b by omega] at h2
    exact ⟨h1, h2, Crs.of_sep hlt h3 (by omega)⟩
  · have h1 := h.srt (2 * p) (by omega)
    have h2 := h.srt (2 * p + 1) (by omega)
    have h3 := h.sep (2 * p + 1) (by omega)
    rw [show 2 * p * 40 = p * (2 * 40) by omega] at h1
    rw [show (2 * p + 1) * 40 = m by omega] at h2 h3
    rw [show min (p * (2 * 40) + 40) N = m by omega] at h1
    rw [show min (m + 40) N = b by omega] at h2
    exact ⟨h1, h2, Crs.of_sep hlt h3 (by omega)⟩
theorem Stg.bound {s a b : Nat} (h : Stg key N s a d0 d) (hv : ∀ i, i < N → (d[i]!).val < N) (hq : ∃ p, a = p * (2 * s)) (hb : b = min (a + 2 * s) N) : SepAt N b d := by
  obtain ⟨p, rfl⟩ := hq
  rcases (by omega : b = p * (2 * s) + 2 * s ∨ b = N) with e | e
  · rw [e, ← Nat.succ_mul]; exact h.sep2 (p + 1)
  · intro i hi
    have := hv i hi
    omega
theorem Stg.step {s a b : Nat} (h : Stg key N s a d0 d) (hsz : d.size = N) (hv : ∀ i, i < N → (d[i]!).val < N) (hs : s = 20 ∨ s = 40) (hq : ∃ p, a = p * (2 * s)) (haN : a ≤ N) (hb : b = min (a + 2 * s) N) (hp : PermIn a b d d') (hd : Srt (keyI key) a b d') : Stg key N s b d0 d' := by
  have hbS := h.bound hv hq hb
  obtain ⟨p, rfl⟩ := hq
  have haS := h.sep2 p
  have hperm := permIn_trans _ _ _ _ _ h.perm (permIn_mono _ _ _ _ _ _ (Nat.zero_le _) (by omega) (by omega) hp)
  rcases hs with rfl | rfl
  · refine ⟨hperm, fun q => ?_, fun q hq => ?_, fun q hq => ?_, fun q hq => ?_⟩
    · exact SepAt.perm (h.sep2 q) haS hbS hp (by omega) (by omega) (by omega)
    · exact SepAt.perm (h.sep q (by omega)) haS hbS hp (by omega) (by omega) (by omega)
    · rcases (by omega : q < p ∨ q = p) with c | c
      · exact (h.srt2 q (by omega)).perm_out hp (.inl (by omega))
      · subst c; rw [← hb]; exact hd
    · exact (h.srt q (by omega)).perm_out hp (.inr (by omega))
  · refine ⟨hperm, fun q => ?_, fun q hq => ?_, fun q hq => ?_, fun q hq => ?_⟩
    · exact SepAt.perm (h.sep2 q) haS hbS hp (by omega) (by omega) (by omega)
    · exact SepAt.perm (h.sep q (by omega)) haS hbS hp (by omega) (by omega) (by omega)
    · rcases (by omega : q < p ∨ q = p) with c | c
      · exact (h.srt2 q (by omega)).perm_out hp (.inl (by omega))
      · subst c; rw [← hb]; exact hd
    · exact (h.srt q (by omega)).perm_out hp (.inr (by omega))
/-- the last block has no partner -/
theorem Stg.lone {s a : Nat} (h : Stg key N s a d0 d) (hs : s = 20 ∨ s = 40) (hq : ∃ p, a = p * (2 * s)) (hm : N ≤ a + s) : Srt (keyI key) a (min (a + 2 * s) N) d := by
  obtain ⟨p, rfl⟩ := hq
  rcases hs with rfl | rfl
  · have h1 := h.srt (2 * p) (by omega)
    rw [show 2 * p * 20 = p * (2 * 20) by omega] at h1
    rwa [show min (p * (2 * 20) + 20) N = min (p * (2 * 20) + 2 * 20) N by omega] at h1
  · have h1 := h.srt (2 * p) (by omega)
    rw [show 2 * p * 40 = p * (2 * 40) by omega] at h1
    rwa [show min (p * (2 * 40) + 40) N = min (p * (2 * 40) + 2 * 40) N by omega] at h1
theorem Stg.next {s a : Nat} (h : Stg key N s a d0 d) (hs : s = 20 ∨ s = 40) (ha : N ≤ a) : Stg key N (2 * s) 0 d0 d := by
  rcases hs with rfl | rfl
  · refine ⟨h.perm, fun q => ?_, fun q _ => h.sep2 q, fun q hq => by omega, fun q _ => ?_⟩
    · have := h.sep2 (q * 2)
      rwa [show q * 2 * (2 * 20) = q * (2 * (2 * 20)) by omega] at this
    · rcases Nat.lt_or_ge (q * (2 * 20)) a with c | c
      · exact h.srt2 q c
      · intro i j g1 g2 g3; omega
  · refine ⟨h.perm, fun q => ?_, fun q _ => h.sep2 q, fun q hq => by omega, fun q _ => ?_⟩
    · have := h.sep2 (q * 2)
      rwa [show q * 2 * (2 * 40) = q * (2 * (2 * 40)) by omega] at this
    · rcases Nat.lt_or_ge (q * (2 * 40)) a with c | c
      · exact h.srt2 q c
      · intro i j g1 g2 g3; omega
theorem Stg.fin {s : Nat} (h : Stg key N s 0 d0 d) (hs : N ≤ s) : PermIn 0 N d0 d ∧ Srt (keyI key) 0 N d := by
  have h1 := h.srt 0 (Nat.zero_le _)
  rw [Nat.zero_mul, Nat.zero_add, Nat.min_eq_right hs] at h1
  exact ⟨h.perm, h1⟩
end
end Go.Proofs.Ytdidahafbcddeaa

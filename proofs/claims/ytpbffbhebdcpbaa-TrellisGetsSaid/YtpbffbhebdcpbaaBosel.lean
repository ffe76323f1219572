/-
  Fifteen bits: what both sums tell of one or two that were turned. Plain words.
-/
import Derived.Test.YtpbffbhebdcpbaaGf
import Derived.Test.YtpbffbhebdcpbaaOnes
import Derived.Test.YtpbffbhebdcpbaaRestp
set_option linter.unusedVariables false
namespace Go.Proofs.Ytpbffbhebdcpbaa
open Go.RowKit

/-- what f makes of the set places, from i on -/
def sG (f : Nat → Nat) : List Bool → Nat → Nat
  | [], _ => 0
  | b :: t, i => (if b then f i else 0) ^^^ sG f t (i + 1)
theorem sG_append (f : Nat → Nat) (a b : List Bool) (i : Nat) : sG f (a ++ b) i = sG f a i ^^^ sG f b (i + a.length) := by
  induction a generalizing i with
  | nil => simp [sG]
  | cons x a ih => simp only [List.cons_append, sG, ih, List.length_cons, Nat.xor_assoc]; rw [show i + 1 + a.length = i + (a.length + 1) by omega]
theorem sG_next (f : Nat → Nat) {l : List Bool} {k : Nat} {x : Bool} (h : l[k]? = some x) : sG f (l.take (k + 1)) 0 = sG f (l.take k) 0 ^^^ if x then f k else 0 := by
  have hk := (List.getElem?_eq_some_iff.1 h).1
  rw [take_next h, sG_append]; simp [sG, Nat.min_eq_left (Nat.le_of_lt hk)]
def xorL (a b : List Bool) : List Bool := List.zipWith (fun x y => x != y) a b
theorem xorL_len {a b : List Bool} (h : a.length = b.length) : (xorL a b).length = a.length := by simp [xorL]; omega
theorem xor_mid (p a q b : Nat) : (p ^^^ a) ^^^ (q ^^^ b) = (p ^^^ q) ^^^ (a ^^^ b) := by
  rw [Nat.xor_assoc, Nat.xor_assoc, ← Nat.xor_assoc a, Nat.xor_comm a q, Nat.xor_assoc q a b]
theorem sG_xor (f : Nat → Nat) : ∀ (a b : List Bool) (i : Nat), a.length = b.length → sG f (xorL a b) i = sG f a i ^^^ sG f b i
  | [], [], _, _ => by simp [xorL, sG]
  | x :: a, y :: b, i, h => by
    show (if (x != y) = true then f i else 0) ^^^ sG f (xorL a b) (i + 1) = _
    rw [sG_xor f a b (i + 1) (by simpa using h)]
    simp only [sG]
    rw [xor_mid]
    congr 1
    cases x <;> cases y <;> simp
  | [], _ :: _, _, h => by simp at h
  | _ :: _, [], _, h => by simp at h
theorem sG_bd {f : Nat → Nat} (hf : ∀ i, f i < 16) : ∀ (l : List Bool) (i : Nat), sG f l i < 16
  | [], _ => by simp [sG]
  | b :: t, i => by rw [sG]; exact xor_lt16 (by split; exact hf i; omega) (sG_bd hf t (i + 1))
def fA (i : Nat) : Nat := gp 2 (14 - i)
def fB (i : Nat) : Nat := gp 2 (3 * (14 - i))
def smA (l : List Bool) : Nat := sG fA l 0
def smB (l : List Bool) : Nat := sG fB l 0
theorem fA_lt (i : Nat) : fA i < 16 := gp_lt (by omega) _
theorem fB_lt (i : Nat) : fB i < 16 := gp_lt (by omega) _
theorem smA_lt (l : List Bool) : smA l < 16 := sG_bd fA_lt l 0
theorem smB_lt (l : List Bool) : smB l < 16 := sG_bd fB_lt l 0
def boseL (d : List Bool) : List Bool := putL 465 8 d 7
theorem boseL_len {d : List Bool} (h : d.length = 7) : (boseL d).length = 15 := by unfold boseL putL; rw [List.length_append, digitsL_len, h]
theorem boseL_take {d : List Bool} (h : d.length = 7) : (boseL d).take 7 = d := by unfold boseL putL; rw [← h, List.take_left]
theorem seven {l : List Bool} (h : l.length = 7) : ∃ a b c d e f g, l = [a, b, c, d, e, f, g] := by
  match l, h with
  | [a, b, c, d, e, f, g], _ => exact ⟨a, b, c, d, e, f, g, rfl⟩
theorem eight {l : List Bool} (h : l.length = 8) : ∃ a b c d e f g i, l = [a, b, c, d, e, f, g, i] := by
  match l, h with
  | [a, b, c, d, e, f, g, i], _ => exact ⟨a, b, c, d, e, f, g, i, rfl⟩
theorem bose_sums_all : ∀ a b c d e f g : Bool, smA (boseL [a, b, c, d, e, f, g]) = 0 ∧ smB (boseL [a, b, c, d, e, f, g]) = 0 := by decide +kernel
theorem bose_far_all : ∀ a b c d e f g : Bool, (a || b || c || d || e || f || g) = true → 5 ≤ onesL (boseL [a, b, c, d, e, f, g]) := by decide +kernel
theorem tail_all : ∀ a b c d e f g i : Bool, smA [false, false, false, false, false, false, false, a, b, c, d, e, f, g, i] = 0 → smB [false, false, false, false, false, false, false, a, b, c, d, e, f, g, i] = 0 → (a || b || c || d || e || f || g || i) = false := by decide +kernel
theorem xorL_self : ∀ a : List Bool, xorL a a = List.replicate a.length false
  | [] => rfl
  | x :: a => by
    show (x != x) :: xorL a a = _
    rw [xorL_self a]; simp [List.replicate_succ]
theorem xorL_append {a b c d : List Bool} (h : a.length = b.length) : xorL (a ++ c) (b ++ d) = xorL a b ++ xorL c d := by
  unfold xorL; rw [List.zipWith_append h]
theorem xorL_zero : ∀ (a b : List Bool), a.length = b.length → onesL (xorL a b) = 0 → a = b
  | [], [], _, _ => rfl
  | x :: a, y :: b, h, h0 => by
    have h1 : onesL (xorL (x :: a) (y :: b)) = (if (x != y) = true then 1 else 0) + onesL (xorL a b) := rfl
    have ih := xorL_zero a b (by simpa using h) (by omega)
    subst ih
    cases x <;> cases y <;> simp at h1 h0 ⊢ <;> omega
  | [], _ :: _, h, _ => by simp at h
  | _ :: _, [], h, _ => by simp at h
/-- both sums 0: a word of the code -/
theorem code_of {l : List Bool} (h : l.length = 15) (hA : smA l = 0) (hB : smB l = 0) : l = boseL (l.take 7) := by
  have h7 : (l.take 7).length = 7 := by simp [h]
  have hbl := boseL_len h7
  obtain ⟨a, b, c, d, e, f, g, hd⟩ := seven h7
  have hs := bose_sums_all a b c d e f g
  rw [← hd] at hs
  have e1 : boseL (l.take 7) = l.take 7 ++ (boseL (l.take 7)).drop 7 := by
    conv => lhs; rw [← List.take_append_drop 7 (boseL (l.take 7)), boseL_take h7]
  have e2 : l = l.take 7 ++ l.drop 7 := (List.take_append_drop 7 l).symm
  have ex : xorL l (boseL (l.take 7)) = List.replicate 7 false ++ xorL (l.drop 7) ((boseL (l.take 7)).drop 7) := by
    conv => lhs; rw [e1]; arg 1; rw [e2]
    rw [xorL_append rfl, xorL_self, h7]
  have ht : (xorL (l.drop 7) ((boseL (l.take 7)).drop 7)).length = 8 := by
    rw [xorL_len (by simp [h, hbl])]; simp [h]
  obtain ⟨t0, t1, t2, t3, t4, t5, t6, t7, et⟩ := eight ht
  have s1 : smA (xorL l (boseL (l.take 7))) = 0 := by
    unfold smA; rw [sG_xor _ _ _ _ (by omega)]
    show smA l ^^^ smA (boseL (l.take 7)) = 0
    rw [hA, hs.1]; rfl
  have s2 : smB (xorL l (boseL (l.take 7))) = 0 := by
    unfold smB; rw [sG_xor _ _ _ _ (by omega)]
    show smB l ^^^ smB (boseL (l.take 7)) = 0
    rw [hB, hs.2]; rfl
  rw [ex, et] at s1 s2
  have h0 := tail_all t0 t1 t2 t3 t4 t5 t6 t7 s1 s2
  apply xorL_zero _ _ (by omega)
  rw [ex, et]
  simp only [Bool.or_eq_false_iff] at h0
  obtain ⟨⟨⟨⟨⟨⟨⟨r0, r1⟩, r2⟩, r3⟩, r4⟩, r5⟩, r6⟩, r7⟩ := h0
  rw [r0, r1, r2, r3, r4, r5, r6, r7]; rfl
theorem bose_sums {d : List Bool} (h : d.length = 7) : smA (boseL d) = 0 ∧ smB (boseL d) = 0 := by
  obtain ⟨a, b, c, d', e, f, g, rfl⟩ := seven h
  exact bose_sums_all a b c d' e f g
/-- at how many places two lists differ -/
def difL (a b : List Bool) : Nat := onesL (xorL a b)
theorem xorL_comm (a b : List Bool) : xorL a b = xorL b a := by
  unfold xorL; rw [List.zipWith_comm]
  congr 1; funext x y; cases x <;> cases y <;> rfl
theorem ones_xor_le : ∀ (a b c : List Bool), a.length = b.length → b.length = c.length → onesL (xorL a c) ≤ onesL (xorL a b) + onesL (xorL b c)
  | [], [], [], _, _ => by simp [xorL, onesL]
  | x :: a, y :: b, z :: c, h, h' => by
    have h1 : ∀ (p q : Bool) (u v : List Bool), onesL (xorL (p :: u) (q :: v)) = (if (p != q) = true then 1 else 0) + onesL (xorL u v) := fun _ _ _ _ => rfl
    rw [h1, h1, h1]
    have ih := ones_xor_le a b c (by simpa using h) (by simpa using h')
    cases x <;> cases y <;> cases z <;> simp <;> omega
  | [], _ :: _, _, h, _ => by simp at h
  | _ :: _, [], _, h, _ => by simp at h
  | _ :: _, _ :: _, [], _, h => by simp at h
  | [], [], _ :: _, _, h => by simp at h
theorem xorL_take (a b : List Bool) (k : Nat) : (xorL a b).take k = xorL (a.take k) (b.take k) := by unfold xorL; rw [List.take_zipWith]
/-- words of the code differ at five places or more -/
theorem bose_apart {d d' : List Bool} (h : d.length = 7) (h' : d'.length = 7) (hne : difL (boseL d) (boseL d') ≤ 4) : d = d' := by
  have hb := boseL_len h
  have hb' := boseL_len h'
  have hl : (xorL (boseL d) (boseL d')).length = 15 := by rw [xorL_len (by omega), hb]
  have hA : smA (xorL (boseL d) (boseL d')) = 0 := by
    unfold smA; rw [sG_xor _ _ _ _ (by omega)]
    show smA (boseL d) ^^^ smA (boseL d') = 0
    rw [(bose_sums h).1, (bose_sums h').1]; rfl
  have hB : smB (xorL (boseL d) (boseL d')) = 0 := by
    unfold smB; rw [sG_xor _ _ _ _ (by omega)]
    show smB (boseL d) ^^^ smB (boseL d') = 0
    rw [(bose_sums h).2, (bose_sums h').2]; rfl
  have hc := code_of hl hA hB
  have ht : (xorL (boseL d) (boseL d')).take 7 = xorL d d' := by rw [xorL_take, boseL_take h, boseL_take h']
  rw [ht] at hc
  have hx7 : (xorL d d').length = 7 := by rw [xorL_len (by omega), h]
  apply xorL_zero _ _ (by omega)
  obtain ⟨a, b, c, e, f, g, i, hx⟩ := seven hx7
  have hf := bose_far_all a b c e f g i
  rw [← hx, ← hc] at hf
  have : (a || b || c || e || f || g || i) = false := by
    cases hq : (a || b || c || e || f || g || i) with
    | false => rfl
    | true => have := hf hq; unfold difL at hne; omega
  simp only [Bool.or_eq_false_iff] at this
  obtain ⟨⟨⟨⟨⟨⟨r0, r1⟩, r2⟩, r3⟩, r4⟩, r5⟩, r6⟩ := this
  rw [hx, r0, r1, r2, r3, r4, r5, r6]; rfl
/-- no place, one or two -/
theorem ones_zero : ∀ (l : List Bool), onesL l = 0 → l = List.replicate l.length false
  | [], _ => rfl
  | x :: t, h => by
    simp only [onesL] at h
    have := ones_zero t (by omega)
    cases x
    · rw [List.length_cons, List.replicate_succ, ← this]
    · simp at h
theorem ones_one : ∀ (l : List Bool), onesL l = 1 → ∃ i, i < l.length ∧ l = (List.replicate l.length false).set i true
  | [], h => by simp [onesL] at h
  | x :: t, h => by
    simp only [onesL] at h
    cases x
    · obtain ⟨i, hi, e⟩ := ones_one t (by simpa using h)
      refine ⟨i + 1, by simpa using hi, ?_⟩
      rw [List.length_cons, List.replicate_succ, List.set_cons_succ, ← e]
    · refine ⟨0, by simp, ?_⟩
      have h0 : onesL t = 0 := by simpa using h
      rw [List.length_cons, List.replicate_succ, List.set_cons_zero, ← ones_zero t h0]
theorem ones_two : ∀ (l : List Bool), onesL l = 2 → ∃ i j, i < j ∧ j < l.length ∧ l = ((List.replicate l.length false).set i true).set j true
  | [], h => by simp [onesL] at h
  | x :: t, h => by
    simp only [onesL] at h
    cases x
    · obtain ⟨i, j, hi, hj, e⟩ := ones_two t (by simpa using h)
      refine ⟨i + 1, j + 1, by omega, by simpa using hj, ?_⟩
      rw [List.length_cons, List.replicate_succ, List.set_cons_succ, List.set_cons_succ, ← e]
    · obtain ⟨j, hj, e⟩ := ones_one t (by simp at h; omega)
      refine ⟨0, j + 1, by omega, by simpa using hj, ?_⟩
      rw [List.length_cons, List.replicate_succ, List.set_cons_zero, List.set_cons_succ, ← e]
/-- with places i and j set -/
def trn (i j : Nat) : List Bool := ((List.replicate 15 false).set i true).set j true
theorem trn_len (i j : Nat) : (trn i j).length = 15 := by simp [trn]
theorem two_trn {l : List Bool} (h : l.length = 15) (h2 : onesL l ≤ 2) (h0 : onesL l ≠ 0) : ∃ i j, i ≤ j ∧ j < 15 ∧ l = trn i j := by
  rcases (show onesL l = 1 ∨ onesL l = 2 by omega) with h1 | h1
  · obtain ⟨i, hi, e⟩ := ones_one l h1
    rw [h] at hi e
    exact ⟨i, i, Nat.le_refl _, hi, by unfold trn; rw [List.set_set]; exact e⟩
  · obtain ⟨i, j, hi, hj, e⟩ := ones_two l h1
    rw [h] at hj e
    exact ⟨i, j, by omega, hj, e⟩
theorem trn_ones_all : ∀ i j : Fin 15, i.val ≤ j.val → onesL (trn i.val j.val) = if i.val < j.val then 2 else 1 := by decide +kernel
theorem trn_ones {i j : Nat} (hi : i ≤ j) (hj : j < 15) : onesL (trn i j) = if i < j then 2 else 1 := trn_ones_all ⟨i, by omega⟩ ⟨j, hj⟩ hi
/-- a pair of places makes both sums -/
def hitB (a b i j : Nat) : Bool := decide (smA (trn i j) = a) && decide (smB (trn i j) = b)
theorem xor_cancel {a b : List Bool} (h : a.length = b.length) : xorL a (xorL a b) = b := by
  induction a generalizing b with
  | nil => cases b with
    | nil => rfl
    | cons _ _ => simp at h
  | cons x a ih => cases b with
    | nil => simp at h
    | cons y b =>
      show (x != (x != y)) :: xorL a (xorL a b) = _
      rw [ih (by simpa using h)]
      cases x <;> cases y <;> rfl
/-- what a pair of places that fits tells -/
theorem hit_code {l : List Bool} {i j : Nat} (h : l.length = 15) (hh : hitB (smA l) (smB l) i j = true) : xorL l (trn i j) = boseL ((xorL l (trn i j)).take 7) := by
  unfold hitB at hh
  simp only [Bool.and_eq_true, decide_eq_true_eq] at hh
  have hlt := trn_len i j
  apply code_of (by rw [xorL_len (by omega), h])
  · unfold smA; rw [sG_xor _ _ _ _ (by omega)]
    show smA l ^^^ smA (trn i j) = 0
    rw [hh.1, Nat.xor_self]
  · unfold smB; rw [sG_xor _ _ _ _ (by omega)]
    show smB l ^^^ smB (trn i j) = 0
    rw [hh.2, Nat.xor_self]
theorem near_hit {l d : List Bool} (h : l.length = 15) (hd : d.length = 7) (hn : difL (boseL d) l ≤ 2) (h0 : ¬ (smA l = 0 ∧ smB l = 0)) : ∃ i j, i ≤ j ∧ j < 15 ∧ hitB (smA l) (smB l) i j = true := by
  have hb := boseL_len hd
  have hx : (xorL (boseL d) l).length = 15 := by rw [xorL_len (by omega), hb]
  have eA : smA (xorL (boseL d) l) = smA l := by
    unfold smA; rw [sG_xor _ _ _ _ (by omega)]
    show smA (boseL d) ^^^ smA l = smA l
    rw [(bose_sums hd).1, Nat.zero_xor]
  have eB : smB (xorL (boseL d) l) = smB l := by
    unfold smB; rw [sG_xor _ _ _ _ (by omega)]
    show smB (boseL d) ^^^ smB l = smB l
    rw [(bose_sums hd).2, Nat.zero_xor]
  have hz : onesL (xorL (boseL d) l) ≠ 0 := by
    intro e
    have := xorL_zero _ _ (by omega) e
    rw [← this] at h0
    exact h0 (bose_sums hd)
  obtain ⟨i, j, hi, hj, e⟩ := two_trn hx hn hz
  refine ⟨i, j, hi, hj, ?_⟩
  unfold hitB
  rw [← e, eA, eB]; simp
theorem near_same {l d d' : List Bool} (h : l.length = 15) (hd : d.length = 7) (hd' : d'.length = 7) (h1 : difL (boseL d) l ≤ 2) (h2 : difL (boseL d') l ≤ 2) : d = d' := by
  have hb := boseL_len hd
  have hb' := boseL_len hd'
  apply bose_apart hd hd'
  have := ones_xor_le (boseL d) l (boseL d') (by omega) (by omega)
  unfold difL at *
  rw [xorL_comm l] at this
  omega
end Go.Proofs.Ytpbffbhebdcpbaa

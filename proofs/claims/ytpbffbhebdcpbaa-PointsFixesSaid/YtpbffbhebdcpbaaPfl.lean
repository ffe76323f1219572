/-
  The polynomial that fits enough of the numbers: there is at most one. Plain words.
-/
import Derived.Test.YtpbffbhebdcpbaaOff
import Derived.Test.YtpbffbhebdcpbaaPolyt
import Derived.Test.YtpbffbhebdcpbaaThru
import Derived.Test.YtpbffbhebdcpbaaBits
set_option linter.unusedVariables false
namespace Go.Proofs.Ytpbffbhebdcpbaa
open Go.RowKit

/-- an increasing choice of k places of n -/
structure Inc (n k : Nat) (P : List Nat) : Prop where
  len : P.length = k
  up : P.Pairwise (· < ·)
  lt : ∀ j ∈ P, j < n
theorem Inc.nodup {n k : Nat} {P : List Nat} (h : Inc n k P) : P.Nodup := h.up.imp fun h => by omega
def disN (l : List Int) (d : List Nat) (j : Nat) : Bool := ((horn (j + 1) d : Int) != l.getD j 0)
def offN (l : List Int) (d : List Nat) (n : Nat) : Nat := cntO (disN l d) n
def GoodD (l : List Int) (n k : Nat) (d : List Nat) : Prop := 2 * offN l d n ≤ n - k
theorem agr_count (f g : Nat → Bool) : ∀ n, n ≤ ((List.range n).filter fun j => !(f j) && !(g j)).length + cntO f n + cntO g n
  | 0 => Nat.zero_le _
  | n + 1 => by
    have ih := agr_count f g n
    rw [List.range_succ, List.filter_append, List.length_append, cntO, cntO]
    cases hf : f n <;> cases hg : g n <;> simp [hf, hg] <;> omega
theorem good_uniq {l : List Int} {n k : Nat} {d e : List Nat} (hn : n ≤ 9) (hk : k ≤ n) (hd : all16 d) (he : all16 e) (hdl : d.length = k) (hel : e.length = k) (h1 : GoodD l n k d) (h2 : GoodD l n k e) : d = e := by
  have hc := agr_count (disN l d) (disN l e) n
  unfold GoodD offN at h1 h2
  have hQ : k ≤ ((List.range n).filter fun j => !(disN l d j) && !(disN l e j)).length := by omega
  have hin : ∀ j ∈ ((List.range n).filter fun j => !(disN l d j) && !(disN l e j)).take k, j < n ∧ horn (j + 1) d = horn (j + 1) e := by
    intro j hj
    have hj := List.mem_filter.1 (List.mem_of_mem_take hj)
    refine ⟨List.mem_range.1 hj.1, ?_⟩
    have h3 := hj.2
    simp [disN] at h3
    have := h3.1.trans h3.2.symm
    omega
  have hnd : (((List.range n).filter fun j => !(disN l d j) && !(disN l e j)).take k).Nodup := (List.nodup_range.sublist List.filter_sublist).sublist (List.take_sublist _ _)
  have hlen : (((List.range n).filter fun j => !(disN l d j) && !(disN l e j)).take k).length = k := by rw [List.length_take]; omega
  generalize ((List.range n).filter fun j => !(disN l d j) && !(disN l e j)).take k = Q at *
  refine poly_uniq (rs := Q.map (· + 1)) hd he (by simp [hdl, hlen]) (by simp [hel, hlen]) ?_ ?_ ?_
  · intro y hy
    obtain ⟨j, hj, rfl⟩ := List.mem_map.1 hy
    have := (hin j hj).1
    omega
  · rw [List.Nodup, List.pairwise_map]
    exact hnd.imp fun h => by omega
  · intro r hr
    obtain ⟨j, hj, rfl⟩ := List.mem_map.1 hr
    exact (hin j hj).2
/-- both ways through some places -/
theorem both_same {n k : Nat} {P : List Nat} {l : List Int} (hP : Inc n k P) (hn : n ≤ 9) (hl : ∀ j, j < n → 0 ≤ l.getD j 0 ∧ l.getD j 0 < 16) :
    nwK (lvI l) P k = lagL (lvI l) P P ∧ all16 (lagL (lvI l) P P) ∧ (lagL (lvI l) P P).length = k := by
  have hok : okPs P := fun j hj => by have := hP.lt j hj; omega
  have hlv : ∀ j ∈ P, lvI l j < 16 := fun j hj => by have := hl j (hP.lt j hj); unfold lvI; omega
  obtain ⟨a, b, c⟩ := lag_eval hok hlv hP.nodup
  obtain ⟨a2, b2, c2⟩ := nw_props hok hlv hP.nodup k (by rw [hP.len]; exact Nat.le_refl _)
  rw [List.take_of_length_le (by rw [hP.len]; exact Nat.le_refl _)] at c2
  exact ⟨thr_same (P := P) hok hP.nodup a2 a (by rw [b2, hP.len]) b c2 c, a, by rw [b, hP.len]⟩
/-- the answer -/
def FixY (l : List Int) (n k : Nat) (d : List Nat) : Prop := ∃ P, Inc n k P ∧ d = lagL (lvI l) P P ∧ GoodD l n k d
def FixN (l : List Int) (n k : Nat) : Prop := ∀ P, Inc n k P → ¬ GoodD l n k (lagL (lvI l) P P)
theorem FixY.uniq {l : List Int} {n k : Nat} {d e : List Nat} (hn : n ≤ 9) (hk : k ≤ n) (hl : ∀ j, j < n → 0 ≤ l.getD j 0 ∧ l.getD j 0 < 16) (h1 : FixY l n k d) (h2 : FixY l n k e) : d = e := by
  obtain ⟨P, hP, rfl, hd⟩ := h1
  obtain ⟨Q, hQ, rfl, he⟩ := h2
  obtain ⟨_, a, b⟩ := both_same hP hn hl
  obtain ⟨_, a2, b2⟩ := both_same hQ hn hl
  exact good_uniq hn hk a a2 b b2 hd he
theorem FixN.no {l : List Int} {n k : Nat} {d : List Nat} (h1 : FixN l n k) (h2 : FixY l n k d) : False := by
  obtain ⟨P, hP, rfl, hd⟩ := h2
  exact h1 P hP hd
/-- the places of a set -/
def setL (n S : Nat) : List Nat := (List.range n).filter fun i => S.testBit i
theorem setL_succ (n S : Nat) : setL (n + 1) S = setL n S ++ if S.testBit n then [n] else [] := by
  unfold setL
  rw [List.range_succ, List.filter_append]
  congr 1
  cases h : S.testBit n <;> simp [h]
theorem setL_pop : ∀ n : Fin 10, ∀ S : Fin 512, S.val < 2 ^ n.val → pop S.val = (setL n.val S.val).length := by decide +kernel
theorem setL_inc {n S : Nat} (hn : n ≤ 9) (hS : S < 2 ^ n) : Inc n (pop S) (setL n S) := by
  have h9 : 2 ^ n ≤ 2 ^ 9 := Nat.pow_le_pow_right (by omega) hn
  refine ⟨(setL_pop ⟨n, by omega⟩ ⟨S, by omega⟩ hS).symm, ?_, fun j hj => List.mem_range.1 (List.mem_filter.1 hj).1⟩
  exact List.Pairwise.filter _ List.pairwise_lt_range
theorem setL_of : ∀ (n : Nat) (P : List Nat), P.Pairwise (· < ·) → (∀ j ∈ P, j < n) → ∃ S, S < 2 ^ n ∧ setL n S = P
  | 0, P, _, h => by
    have : P = [] := List.eq_nil_iff_forall_not_mem.2 fun j hj => by have := h j hj; omega
    exact ⟨0, by simp, by rw [this]; rfl⟩
  | n + 1, P, hp, h => by
    by_cases hn : n ∈ P
    · obtain ⟨Q, hQ⟩ : ∃ Q, P = Q ++ [n] := by
        have hne : P ≠ [] := fun e => by rw [e] at hn; cases hn
        refine ⟨P.dropLast, ?_⟩
        have h1 := List.dropLast_concat_getLast hne
        have h2 : P.getLast hne = n := by
          have h3 := h _ (List.getLast_mem hne)
          rw [← h1] at hn
          rcases List.mem_append.1 hn with h4 | h4
          · rw [← h1, List.pairwise_append] at hp
            have := hp.2.2 n h4 _ (List.mem_singleton.2 rfl)
            omega
          · exact (List.mem_singleton.1 h4).symm
        rw [h2] at h1
        exact h1.symm
      subst hQ
      rw [List.pairwise_append] at hp
      obtain ⟨S, hS, e⟩ := setL_of n Q hp.1 (fun j hj => hp.2.2 j hj n (List.mem_singleton.2 rfl))
      refine ⟨2 ^ n + S, by rw [Nat.pow_succ]; omega, ?_⟩
      have hb : (2 ^ n + S).testBit n = true := by rw [Nat.testBit_two_pow_add_eq, Nat.testBit_lt_two_pow hS]; rfl
      rw [setL_succ, hb, if_pos rfl, ← e]
      congr 1
      unfold setL
      refine List.filter_congr fun j hj => ?_
      exact Nat.testBit_two_pow_add_gt (List.mem_range.1 hj) S
    · obtain ⟨S, hS, e⟩ := setL_of n P hp (fun j hj => by
        have := h j hj
        rcases Nat.lt_or_ge j n with h1 | h1
        · exact h1
        · obtain rfl : j = n := by omega
          exact absurd hj hn)
      refine ⟨S, by rw [Nat.pow_succ]; omega, ?_⟩
      rw [setL_succ, Nat.testBit_lt_two_pow hS, e]; simp
theorem fixN_of {l : List Int} {n k : Nat} (hn : n ≤ 9) (h : ∀ S, S < 2 ^ n → pop S = k → ¬ GoodD l n k (lagL (lvI l) (setL n S) (setL n S))) : FixN l n k := by
  intro P hP
  obtain ⟨S, hS, e⟩ := setL_of n P hP.up hP.lt
  have hi := setL_inc hn hS
  have := h S hS (by rw [← hP.len, ← e]; exact hi.len.symm)
  rwa [e] at this
/-- all choices, in the order in which they come -/
def exts (n : Nat) : Nat → List Nat → Nat → List (List Nat)
  | 0, l, _ => [l]
  | m + 1, l, i => (List.range' i (n - i)).flatMap fun j => exts n m (l ++ [j]) (j + 1)
/-- those that come of the next places up to j -/
def extT (n m : Nat) (l : List Nat) (i j : Nat) : List (List Nat) := (List.range' i (j - i)).flatMap fun j => exts n m (l ++ [j]) (j + 1)
theorem extT_start (n m : Nat) (l : List Nat) (i : Nat) : extT n m l i i = [] := by unfold extT; rw [Nat.sub_self]; rfl
theorem extT_next (n m : Nat) (l : List Nat) {i j : Nat} (h : i ≤ j) : extT n m l i (j + 1) = extT n m l i j ++ exts n m (l ++ [j]) (j + 1) := by
  unfold extT
  rw [show j + 1 - i = (j - i) + 1 by omega, List.range'_concat, List.flatMap_append]
  simp [show i + (j - i) = j by omega]
theorem extT_all (n m : Nat) (l : List Nat) {i : Nat} : extT n m l i n = exts n (m + 1) l i := rfl
theorem extT_over (n m : Nat) (l : List Nat) {i : Nat} (h : n ≤ i) : exts n (m + 1) l i = [] := by
  rw [exts, show n - i = 0 by omega]; rfl
theorem mem_exts {n : Nat} : ∀ (m : Nat) (l Q : List Nat) (i : Nat), Q.length = m → Q.Pairwise (· < ·) → (∀ j ∈ Q, i ≤ j ∧ j < n) → l ++ Q ∈ exts n m l i
  | 0, l, Q, i, hl, _, _ => by
    rw [List.eq_nil_of_length_eq_zero hl]; simp [exts]
  | m + 1, l, [], i, hl, _, _ => by simp at hl
  | m + 1, l, q :: Q, i, hl, hp, h => by
    rw [exts, List.mem_flatMap]
    have hq := h q (List.mem_cons_self ..)
    rw [List.pairwise_cons] at hp
    refine ⟨q, List.mem_range'.2 ⟨q - i, by omega, by omega⟩, ?_⟩
    have := mem_exts m (l ++ [q]) Q (q + 1) (by simpa using hl) hp.2 (fun j hj => ⟨hp.1 j hj, (h j (List.mem_cons_of_mem _ hj)).2⟩)
    rwa [List.append_assoc] at this
theorem exts_inc {n : Nat} : ∀ (m : Nat) (l : List Nat) (i : Nat), l.Pairwise (· < ·) → (∀ j ∈ l, j < i) → (∀ j ∈ l, j < n) → ∀ P ∈ exts n m l i, Inc n (l.length + m) P
  | 0, l, i, h1, h2, h3, P, hP => by
    rw [exts, List.mem_singleton] at hP
    subst hP
    exact ⟨rfl, h1, h3⟩
  | m + 1, l, i, h1, h2, h3, P, hP => by
    rw [exts, List.mem_flatMap] at hP
    obtain ⟨j, hj, hP⟩ := hP
    obtain ⟨t, ht, rfl⟩ := List.mem_range'.1 hj
    have := exts_inc m (l ++ [i + 1 * t]) (i + 1 * t + 1) (by
      rw [List.pairwise_append]
      refine ⟨h1, List.pairwise_singleton _ _, fun a ha b hb => ?_⟩
      rw [List.mem_singleton.1 hb]
      have := h2 a ha; omega) (fun a ha => by
      rcases List.mem_append.1 ha with ha | ha
      · have := h2 a ha; omega
      · rw [List.mem_singleton.1 ha]; omega) (fun a ha => by
      rcases List.mem_append.1 ha with ha | ha
      · exact h3 a ha
      · rw [List.mem_singleton.1 ha]; omega) P hP
    rw [List.length_append, List.length_cons, List.length_nil] at this
    rwa [show l.length + (m + 1) = l.length + (0 + 1) + m by omega]
/-- all k places of n -/
def choices (n k : Nat) : List (List Nat) := exts n k [] 0
theorem choices_inc {n k : Nat} {P : List Nat} (h : P ∈ choices n k) : Inc n k P := by
  have := exts_inc k [] 0 List.Pairwise.nil (by simp) (by simp) P h
  simpa using this
theorem inc_choices {n k : Nat} {P : List Nat} (h : Inc n k P) : P ∈ choices n k := by
  have := mem_exts (n := n) k [] P 0 h.len h.up (fun j hj => ⟨Nat.zero_le _, h.lt j hj⟩)
  rw [List.nil_append] at this
  exact this
theorem fixN_choices {l : List Int} {n k : Nat} (h : ∀ P ∈ choices n k, ¬ GoodD l n k (lagL (lvI l) P P)) : FixN l n k := fun P hP => h P (inc_choices hP)
end Go.Proofs.Ytpbffbhebdcpbaa

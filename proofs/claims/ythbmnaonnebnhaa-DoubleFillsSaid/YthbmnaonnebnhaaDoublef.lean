/-
  Both sums where one or two of the numbers are gone: what they come to is one list alone. Plain words.
-/
import Derived.Test.YthbmnaonnebnhaaDouble
set_option linter.unusedVariables false
namespace Go.Proofs.Ythbmnaonnebnhaa
open Go.RowKit

theorem dbA_lt {l : List Nat} (hl : ∀ x ∈ l, x < 16) : ∀ k, dbA l k < 16
  | 0 => by simp [dbA]
  | k + 1 => by
    rw [dbA]
    refine xor_lt16 (dbA_lt hl k) ?_
    rw [List.getD_eq_getElem?_getD]
    rcases h : l[k]? with _ | x
    · simp
    · exact hl x (mem_at h)
theorem getD_lt {l : List Nat} (hl : ∀ x ∈ l, x < 16) (k : Nat) : l.getD k 0 < 16 := by
  rw [List.getD_eq_getElem?_getD]
  rcases h : l[k]? with _ | x
  · simp
  · exact hl x (mem_at h)
theorem dbB_lt {l : List Nat} (hl : ∀ x ∈ l, x < 16) : ∀ k, dbB l k < 16
  | 0 => by simp [dbB]
  | k + 1 => by rw [dbB]; exact xor_lt16 (dbB_lt hl k) (gm_lt (getD_lt hl k) (gp_lt (by omega) k))
theorem getD_set {l : List Nat} {i k a : Nat} (hi : i < l.length) : (l.set i a).getD k 0 = if k = i then a else l.getD k 0 := by
  rw [List.getD_eq_getElem?_getD, List.getElem?_set]
  by_cases e : i = k
  · subst e; rw [if_pos rfl, if_pos hi, if_pos rfl]; rfl
  · rw [if_neg e, if_neg (fun h => e h.symm), List.getD_eq_getElem?_getD]
theorem dbA_set {l : List Nat} {i a : Nat} (hi : i < l.length) (h0 : l.getD i 0 = 0) : ∀ k, dbA (l.set i a) k = dbA l k ^^^ (if i < k then a else 0)
  | 0 => by simp [dbA]
  | k + 1 => by
    rw [dbA, dbA, dbA_set hi h0 k, getD_set hi]
    rcases Nat.lt_trichotomy i k with h | h | h
    · rw [if_pos h, if_neg (by omega), if_pos (by omega), Nat.xor_assoc, Nat.xor_assoc, Nat.xor_comm a]
    · subst h; rw [if_neg (by omega), if_pos rfl, if_pos (by omega), h0]
    · rw [if_neg (by omega), if_neg (by omega), if_neg (by omega)]; simp
theorem dbB_set {l : List Nat} {i a : Nat} (hi : i < l.length) (h0 : l.getD i 0 = 0) : ∀ k, dbB (l.set i a) k = dbB l k ^^^ (if i < k then gm a (gp 2 i) else 0)
  | 0 => by simp [dbB]
  | k + 1 => by
    rw [dbB, dbB, dbB_set hi h0 k, getD_set hi]
    rcases Nat.lt_trichotomy i k with h | h | h
    · rw [if_pos h, if_neg (by omega), if_pos (by omega), Nat.xor_assoc, Nat.xor_assoc, Nat.xor_comm (gm a (gp 2 i))]
    · subst h; rw [if_neg (by omega), if_pos rfl, if_pos (by omega), h0, zero_gm (gp_lt (by omega) i)]
    · rw [if_neg (by omega), if_neg (by omega), if_neg (by omega)]; simp
/-- a by b -/
def dvG (a b : Nat) : Nat := gm a (gp b 14)
theorem dv_fin : ∀ a b x : Fin 16, b.val ≠ 0 → (gm x.val b.val = a.val ↔ x.val = dvG a.val b.val) := by decide +kernel
theorem dv_iff {a b x : Nat} (ha : a < 16) (hb : b < 16) (hx : x < 16) (h0 : b ≠ 0) : gm x b = a ↔ x = dvG a b := dv_fin ⟨a, ha⟩ ⟨b, hb⟩ ⟨x, hx⟩ h0
theorem dvG_lt {a b : Nat} (ha : a < 16) (hb : b < 16) : dvG a b < 16 := gm_lt ha (gp_lt hb 14)
theorem gp_ne_fin : ∀ i j : Fin 15, i.val ≠ j.val → gp 2 i.val ≠ gp 2 j.val := by decide +kernel
theorem gp_ne0_fin : ∀ i : Fin 15, gp 2 i.val ≠ 0 := by decide +kernel
theorem xor_eq_iff {a b c : Nat} : a ^^^ b = c ↔ b = a ^^^ c := by
  constructor
  · rintro rfl; rw [← Nat.xor_assoc, Nat.xor_self, Nat.zero_xor]
  · rintro rfl; rw [← Nat.xor_assoc, Nat.xor_self, Nat.zero_xor]
theorem xor_ne0 {a b : Nat} (h : a ≠ b) : a ^^^ b ≠ 0 := fun e => h (by
  have := xor_eq_iff.1 e; rw [this]; simp)
/-- two equations, two numbers -/
theorem two_fin {p q g h x y : Nat} (hp : p < 16) (hq : q < 16) (hg : g < 16) (hh : h < 16) (hx : x < 16) (hy : y < 16) (hne : g ≠ h) (h1 : x ^^^ y = p) (h2 : gm x g ^^^ gm y h = q) : x = dvG (q ^^^ gm p h) (g ^^^ h) ∧ y = x ^^^ p := by
  have hy2 : y = x ^^^ p := xor_eq_iff.1 h1
  refine ⟨?_, hy2⟩
  refine (dv_iff (xor_lt16 hq (gm_lt hp hh)) (xor_lt16 hg hh) hx (xor_ne0 hne)).1 ?_
  rw [gm_comm hx (xor_lt16 hg hh), gm_dist hg hh hx, gm_comm hg hx, gm_comm hh hx]
  rw [hy2, gm_dist hx hp hh] at h2
  rw [← h2, Nat.xor_assoc, Nat.xor_assoc, Nat.xor_self, Nat.xor_zero]
/-- with a and b where numbers are gone -/
def setG (d : List Nat) (gone : List Nat) (a b : Nat) : List Nat := match gone with
  | [] => d
  | [i] => d.set i a
  | i :: j :: _ => (d.set i a).set j b
def solG (d gone : List Nat) (p q : Nat) (hasP : Bool) : Nat × Nat := match gone with
  | [] => (0, 0)
  | [i] => if hasP then (p, 0) else (dvG q (gp 2 i), 0)
  | i :: j :: _ => (dvG (q ^^^ gm p (gp 2 j)) (gp 2 i ^^^ gp 2 j), dvG (q ^^^ gm p (gp 2 j)) (gp 2 i ^^^ gp 2 j) ^^^ p)
/-- both sums are what they are to be, as far as these are there -/
def okG (d : List Nat) (n P Q : Nat) (hasP hasQ : Bool) : Bool := (!hasP || decide (dbA d n = P)) && (!hasQ || decide (dbB d n = Q))
theorem okG_iff {d : List Nat} {n P Q : Nat} {hasP hasQ : Bool} : okG d n P Q hasP hasQ = true ↔ (hasP = true → dbA d n = P) ∧ (hasQ = true → dbB d n = Q) := by
  unfold okG
  cases hasP <;> cases hasQ <;> simp
theorem sol_lt {d gone : List Nat} {p q : Nat} {hasP : Bool} (hp : p < 16) (hq : q < 16) : (solG d gone p q hasP).1 < 16 ∧ (solG d gone p q hasP).2 < 16 := by
  unfold solG
  have g16 := fun k => gp_lt (a := 2) (by omega) k
  split
  · exact ⟨by decide, by decide⟩
  · split
    · exact ⟨hp, Nat.zero_lt_succ _⟩
    · exact ⟨dvG_lt hq (g16 _), Nat.zero_lt_succ _⟩
  · rename_i i j r
    have h1 := dvG_lt (xor_lt16 hq (gm_lt hp (g16 j))) (xor_lt16 (g16 i) (g16 j))
    exact ⟨h1, xor_lt16 h1 hp⟩
theorem setG_uniq {d gone : List Nat} {n P Q a b : Nat} {hasP hasQ : Bool} (hd : ∀ x ∈ d, x < 16) (hn : d.length = n) (hn12 : n ≤ 12) (hP : P < 16) (hQ : Q < 16) (ha : a < 16) (hb : b < 16)
    (hg : ∀ i ∈ gone, i < n ∧ d.getD i 0 = 0) (hnd : gone.Nodup) (hlen : gone.length ≤ 2) (h1 : gone.length = 1 → hasP = true ∨ hasQ = true) (h2 : gone.length = 2 → hasP = true ∧ hasQ = true)
    (hok : okG (setG d gone a b) n P Q hasP hasQ = true) :
    setG d gone a b = setG d gone (solG d gone (dbA d n ^^^ P) (dbB d n ^^^ Q) hasP).1 (solG d gone (dbA d n ^^^ P) (dbB d n ^^^ Q) hasP).2 := by
  have hA := dbA_lt hd n
  have hB := dbB_lt hd n
  have hp := xor_lt16 hA hP
  have hq := xor_lt16 hB hQ
  match gone, hg, hnd, hlen, h1, h2, hok with
  | [], _, _, _, _, _, _ => rfl
  | [i], hg, _, _, h1, _, hok =>
    obtain ⟨hi, h0⟩ := hg i (by simp)
    have hok2 := okG_iff.1 (show okG (d.set i a) n P Q hasP hasQ = true from hok)
    rw [dbA_set (by omega) h0, dbB_set (by omega) h0, if_pos hi, if_pos hi] at hok2
    show d.set i a = d.set i (if hasP = true then (dbA d n ^^^ P, 0) else (dvG (dbB d n ^^^ Q) (gp 2 i), 0)).fst
    cases hasP with
    | true =>
      have := hok2.1 rfl
      rw [if_pos rfl, xor_eq_iff.1 this]
    | false =>
      have hq1 : hasQ = true := (h1 rfl).resolve_left (by simp)
      have := hok2.2 hq1
      rw [if_neg (by simp), (dv_iff hq (gp_lt (by omega) i) ha (gp_ne0_fin ⟨i, by omega⟩)).1 (xor_eq_iff.1 this)]
  | [i, j], hg, hnd, _, _, h2, hok =>
    obtain ⟨hi, h0⟩ := hg i (by simp)
    obtain ⟨hj, k0⟩ := hg j (by simp)
    have hij : i ≠ j := by simpa using hnd
    obtain ⟨rfl, rfl⟩ := h2 rfl
    have hok2 := okG_iff.1 (show okG ((d.set i a).set j b) n P Q true true = true from hok)
    have k0' : (d.set i a).getD j 0 = 0 := by rw [getD_set (by omega), if_neg (fun e => hij e.symm)]; exact k0
    rw [dbA_set (by simp; omega) k0', dbB_set (by simp; omega) k0', dbA_set (by omega) h0, dbB_set (by omega) h0, if_pos hi, if_pos hj, if_pos hi, if_pos hj] at hok2
    have e1 := hok2.1 rfl
    have e2 := hok2.2 rfl
    rw [Nat.xor_assoc, xor_eq_iff] at e1 e2
    obtain ⟨r1, r2⟩ := two_fin hp hq (gp_lt (by omega) i) (gp_lt (by omega) j) ha hb (gp_ne_fin ⟨i, by omega⟩ ⟨j, by omega⟩ hij) e1 e2
    show (d.set i a).set j b = (d.set i (dvG (dbB d n ^^^ Q ^^^ gm (dbA d n ^^^ P) (gp 2 j)) (gp 2 i ^^^ gp 2 j))).set j (dvG (dbB d n ^^^ Q ^^^ gm (dbA d n ^^^ P) (gp 2 j)) (gp 2 i ^^^ gp 2 j) ^^^ (dbA d n ^^^ P))
    rw [← r1, ← r2]
end Go.Proofs.Ythbmnaonnebnhaa

/-
  Sixteen numbers: products, powers and values of polynomials, in plain Lean.
-/
import Derived.Test.YtpbffbhebdcpbaaBits
set_option linter.unusedVariables false
namespace Go.Proofs.Ytpbffbhebdcpbaa
open Go.RowKit

def tstep : Nat → Nat → Nat → Nat → Nat
  | 0, p, _, _ => p
  | f + 1, p, a, b => if b = 0 then p else tstep f (if b % 2 = 1 then p ^^^ a else p) (if 15 < 2 * a then (2 * a) ^^^ 19 else 2 * a) (b / 2)
def gm (a b : Nat) : Nat := tstep 4 0 a b
theorem gm_lt_fin : ∀ a b : Fin 16, gm a.val b.val < 16 := by decide +kernel
theorem gm_comm_fin : ∀ a b : Fin 16, gm a.val b.val = gm b.val a.val := by decide +kernel
theorem gm_assoc_fin : ∀ a b c : Fin 16, gm (gm a.val b.val) c.val = gm a.val (gm b.val c.val) := by decide +kernel
theorem gm_dist_fin : ∀ a b c : Fin 16, gm (a.val ^^^ b.val) c.val = gm a.val c.val ^^^ gm b.val c.val := by decide +kernel
theorem gm_one_fin : ∀ a : Fin 16, gm a.val 1 = a.val ∧ gm 1 a.val = a.val ∧ gm a.val 0 = 0 ∧ gm 0 a.val = 0 := by decide +kernel
theorem gm_lt {a b : Nat} (ha : a < 16) (hb : b < 16) : gm a b < 16 := gm_lt_fin ⟨a, ha⟩ ⟨b, hb⟩
theorem gm_comm {a b : Nat} (ha : a < 16) (hb : b < 16) : gm a b = gm b a := gm_comm_fin ⟨a, ha⟩ ⟨b, hb⟩
theorem gm_assoc {a b c : Nat} (ha : a < 16) (hb : b < 16) (hc : c < 16) : gm (gm a b) c = gm a (gm b c) := gm_assoc_fin ⟨a, ha⟩ ⟨b, hb⟩ ⟨c, hc⟩
theorem gm_dist {a b c : Nat} (ha : a < 16) (hb : b < 16) (hc : c < 16) : gm (a ^^^ b) c = gm a c ^^^ gm b c := gm_dist_fin ⟨a, ha⟩ ⟨b, hb⟩ ⟨c, hc⟩
theorem gm_one {a : Nat} (ha : a < 16) : gm a 1 = a := (gm_one_fin ⟨a, ha⟩).1
theorem one_gm {a : Nat} (ha : a < 16) : gm 1 a = a := (gm_one_fin ⟨a, ha⟩).2.1
theorem gm_zero {a : Nat} (ha : a < 16) : gm a 0 = 0 := (gm_one_fin ⟨a, ha⟩).2.2.1
theorem zero_gm {a : Nat} (ha : a < 16) : gm 0 a = 0 := (gm_one_fin ⟨a, ha⟩).2.2.2
theorem xor_lt16 {a b : Nat} (ha : a < 16) (hb : b < 16) : a ^^^ b < 16 := Nat.xor_lt_two_pow (n := 4) ha hb

/-- powers -/
def gp (a : Nat) : Nat → Nat
  | 0 => 1
  | k + 1 => gm (gp a k) a
theorem gp_lt {a : Nat} (ha : a < 16) (k : Nat) : gp a k < 16 := by
  induction k with
  | zero => simp [gp]
  | succ k ih => exact gm_lt ih ha
theorem gp_add {a : Nat} (ha : a < 16) (m n : Nat) : gp a (m + n) = gm (gp a m) (gp a n) := by
  induction n with
  | zero => rw [Nat.add_zero, gp, gm_one (gp_lt ha m)]
  | succ n ih => rw [← Nat.add_assoc, gp, ih, gp, gm_assoc (gp_lt ha m) (gp_lt ha n) ha]
theorem gp_two {a : Nat} (ha : a < 16) : gp a 2 = gm a a := by
  show gm (gm 1 a) a = _
  rw [one_gm ha]
theorem gp_sq {a : Nat} (ha : a < 16) (k : Nat) : gp (gm a a) k = gp a (2 * k) := by
  induction k with
  | zero => rfl
  | succ k ih => rw [gp, ih, show 2 * (k + 1) = 2 * k + 2 from by omega, gp_add ha, gp_two ha]
theorem gp_15_fin : ∀ a : Fin 16, a.val ≠ 0 → gp a.val 15 = 1 := by decide +kernel
theorem gp_mul15 {a : Nat} (ha : a < 16) (h0 : a ≠ 0) (q : Nat) : gp a (15 * q) = 1 := by
  induction q with
  | zero => rfl
  | succ q ih => rw [show 15 * (q + 1) = 15 * q + 15 from by omega, gp_add ha, ih, gp_15_fin ⟨a, ha⟩ h0]; rfl
theorem gp_mod {a : Nat} (ha : a < 16) (h0 : a ≠ 0) (k : Nat) : gp a k = gp a (k % 15) := by
  conv => lhs; rw [← Nat.div_add_mod k 15]
  rw [gp_add ha, gp_mul15 ha h0, one_gm (gp_lt ha _)]
theorem gp_zero (k : Nat) (hk : 0 < k) : gp 0 k = 0 := by
  obtain ⟨k, rfl⟩ : ∃ j, k = j + 1 := ⟨k - 1, by omega⟩
  exact gm_zero (gp_lt (by omega) k)
/-- what Inv tells is the least that makes 1 -/
theorem inv_fin : ∀ a : Fin 16, a.val ≠ 0 → gm a.val (gp a.val 14) = 1 ∧ 1 ≤ gp a.val 14 ∧ ∀ y : Fin 16, 1 ≤ y.val → y.val < gp a.val 14 → gm a.val y.val ≠ 1 := by decide +kernel

/-- values: from the greatest power on; and power by power -/
def horn (x : Nat) : List Nat → Nat
  | [] => 0
  | c :: t => gm (horn x t) x ^^^ c
def vals (x : Nat) : Nat → List Nat → Nat
  | _, [] => 0
  | e, c :: t => gm c (gp x e) ^^^ vals x (e + 1) t
theorem horn_lt {x : Nat} (hx : x < 16) {l : List Nat} (hl : ∀ c ∈ l, c < 16) : horn x l < 16 := by
  induction l with
  | nil => simp [horn]
  | cons c l ih => exact xor_lt16 (gm_lt (ih fun y hy => hl y (List.mem_cons_of_mem _ hy)) hx) (hl c (List.mem_cons_self ..))
theorem vals_horn {x : Nat} (hx : x < 16) {l : List Nat} (hl : ∀ c ∈ l, c < 16) (e : Nat) : vals x e l = gm (horn x l) (gp x e) := by
  induction l generalizing e with
  | nil => rw [vals, horn, zero_gm (gp_lt hx e)]
  | cons c l ih =>
    have h1 : ∀ c ∈ l, c < 16 := fun y hy => hl y (List.mem_cons_of_mem _ hy)
    have hc := hl c (List.mem_cons_self ..)
    have hh := horn_lt hx h1
    rw [vals, ih h1, horn, gm_dist (gm_lt hh hx) hc (gp_lt hx e), gm_assoc hh hx (gp_lt hx e), Nat.xor_comm]
    congr 1
    congr 1
    rw [gp, gm_comm (gp_lt hx e) hx]
theorem vals_zero {x : Nat} (hx : x < 16) {l : List Nat} (hl : ∀ c ∈ l, c < 16) : vals x 0 l = horn x l := by
  rw [vals_horn hx hl]; exact gm_one (horn_lt hx hl)
theorem vals_append (x e : Nat) (a b : List Nat) : vals x e (a ++ b) = vals x e a ^^^ vals x (e + a.length) b := by
  induction a generalizing e with
  | nil => simp [vals]
  | cons c a ih => rw [List.cons_append, vals, ih, vals, Nat.xor_assoc, List.length_cons, show e + 1 + a.length = e + (a.length + 1) from by omega]
theorem vals_next {x : Nat} {l : List Nat} {k c : Nat} (h : l[k]? = some c) : vals x 0 (l.take (k + 1)) = vals x 0 (l.take k) ^^^ gm c (gp x k) := by
  have hk := (List.getElem?_eq_some_iff.1 h).1
  rw [take_next h, vals_append, List.length_take, show 0 + min k l.length = k from by omega]
  simp [vals]
theorem vals_lt {x : Nat} (hx : x < 16) {l : List Nat} (hl : ∀ c ∈ l, c < 16) : vals x 0 l < 16 := by rw [vals_zero hx hl]; exact horn_lt hx hl

/-- the reference's product -/

def mulIn (a b i p : Nat) : Nat → Nat
  | 0 => p
  | j + 1 => if bitB a i && bitB b j then mulIn a b i p j ^^^ 2 ^ (i + j) else mulIn a b i p j
def mulOut (a b : Nat) : Nat → Nat
  | 0 => 0
  | i + 1 => mulIn a b i (mulOut a b i) 4
/-- with the bits from 6 down, k of them, taken away -/
def redF (p : Nat) : Nat → Nat
  | 0 => p
  | k + 1 => if bitB (redF p k) (6 - k) then redF p k ^^^ 19 * 2 ^ (2 - k) else redF p k
theorem mulIn_lt {a b i p j : Nat} (hp : p < 128) (hi : i < 4) (hj : j ≤ 4) : mulIn a b i p j < 128 := by
  induction j with
  | zero => exact hp
  | succ j ih =>
    have h1 := ih (by omega)
    rw [mulIn]
    split
    · exact Nat.xor_lt_two_pow (n := 7) h1 (Nat.pow_lt_pow_right (by omega) (by omega))
    · exact h1
theorem mulOut_lt {a b i : Nat} (hi : i ≤ 4) : mulOut a b i < 128 := by
  induction i with
  | zero => simp [mulOut]
  | succ i ih => exact mulIn_lt (ih (by omega)) (by omega) (by omega)
theorem redF_lt {p k : Nat} (hp : p < 128) (hk : k ≤ 3) : redF p k < 128 := by
  induction k with
  | zero => exact hp
  | succ k ih =>
    have h1 := ih (by omega)
    rw [redF]
    split
    · refine Nat.xor_lt_two_pow (n := 7) h1 ?_
      have : 2 ^ (2 - k) ≤ 2 ^ 2 := Nat.pow_le_pow_right (by omega) (by omega)
      omega
    · exact h1
theorem mul_ref_fin : ∀ a b : Fin 16, redF (mulOut a.val b.val 4) 3 = gm a.val b.val := by decide +kernel
theorem mul_ref {a b : Nat} (ha : a < 16) (hb : b < 16) : redF (mulOut a b 4) 3 = gm a b := mul_ref_fin ⟨a, ha⟩ ⟨b, hb⟩
end Go.Proofs.Ytpbffbhebdcpbaa

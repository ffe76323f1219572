import Derived.Test.YtdidahafbcddeaaDigits
set_option linter.unusedVariables false
namespace Go.Proofs.Ytdidahafbcddeaa
open Go.RowKit

def risesB : List Bool → List Bool → Bool
  | a :: s, b :: t => if a = b then risesB s t else b
  | _, _ => false
theorem digits_cons (x n : Nat) : digitsL x (n + 1) = bitB x n :: digitsL (x % 2 ^ n) n := by
  unfold digitsL
  rw [List.range_succ_eq_map, List.map_cons, List.map_map]
  congr 1
  apply List.map_congr_left
  intro j hj
  have hj := List.mem_range.1 hj
  simp only [Function.comp]
  unfold bitB
  rw [show n + 1 - 1 - (j + 1) = n - 1 - j from by omega]
  have e : 2 ^ n = 2 ^ (n - 1 - j) * 2 ^ (j + 1) := by rw [← Nat.pow_add]; congr 1; omega
  have e2 : x % 2 ^ n / 2 ^ (n - 1 - j) % 2 = x / 2 ^ (n - 1 - j) % 2 := by
    rw [e, Nat.mod_mul_right_div_self, Nat.pow_succ, Nat.mul_comm, Nat.mod_mul_right_mod]
  rw [e2]
theorem rises_iff : ∀ (D m n y x : Nat), m ≤ D → n ≤ D → y < 2 ^ m → x < 2 ^ n → risesB (digitsL y m) (digitsL x n) = decide ((y + 1) * 2 ^ (D - m) ≤ x * 2 ^ (D - n)) := by
  intro D
  induction D with
  | zero =>
    intro m n y x hm hn hy hx
    obtain rfl : m = 0 := by omega
    obtain rfl : n = 0 := by omega
    have : x = 0 := by simpa using hx
    subst this
    simp [digitsL, risesB]
  | succ D ih =>
    intro m n y x hm hn hy hx
    cases m with
    | zero =>
      have e : digitsL y 0 = [] := by simp [digitsL]
      have h0 : ¬ (y + 1) * 2 ^ (D + 1 - 0) ≤ x * 2 ^ (D + 1 - n) := by
        have h1 : x * 2 ^ (D + 1 - n) < 2 ^ n * 2 ^ (D + 1 - n) := Nat.mul_lt_mul_of_pos_right hx (Nat.pow_pos (by omega))
        rw [← Nat.pow_add, show n + (D + 1 - n) = D + 1 from by omega] at h1
        have h2 : 2 ^ (D + 1) ≤ (y + 1) * 2 ^ (D + 1) := Nat.le_mul_of_pos_left _ (by omega)
        simp only [Nat.sub_zero]
        omega
      rw [e, decide_eq_false h0]
      cases digitsL x n <;> rfl
    | succ m =>
      cases n with
      | zero =>
        have e : digitsL x 0 = [] := by simp [digitsL]
        have hx0 : x = 0 := by simpa using hx
        have h0 : ¬ (y + 1) * 2 ^ (D + 1 - (m + 1)) ≤ x * 2 ^ (D + 1 - 0) := by
          rw [hx0, Nat.zero_mul]
          have := Nat.mul_pos (show 0 < y + 1 by omega) (Nat.pow_pos (n := D + 1 - (m + 1)) (show 0 < 2 by omega))
          omega
        rw [e, decide_eq_false h0]
        cases digitsL y (m + 1) <;> rfl
      | succ n =>
        rw [digits_cons, digits_cons, risesB]
        have hpm := Nat.pow_pos (n := m) (show 0 < 2 by omega)
        have hpn := Nat.pow_pos (n := n) (show 0 < 2 by omega)
        have ym : y % 2 ^ m < 2 ^ m := Nat.mod_lt _ hpm
        have xm : x % 2 ^ n < 2 ^ n := Nat.mod_lt _ hpn
        have ey := Nat.div_add_mod y (2 ^ m)
        have ex := Nat.div_add_mod x (2 ^ n)
        have hy2 : y / 2 ^ m < 2 := by rw [Nat.div_lt_iff_lt_mul hpm]; rw [Nat.pow_succ] at hy; omega
        have hx2 : x / 2 ^ n < 2 := by rw [Nat.div_lt_iff_lt_mul hpn]; rw [Nat.pow_succ] at hx; omega
        have ihh := ih m n (y % 2 ^ m) (x % 2 ^ n) (by omega) (by omega) ym xm
        have eM : 2 ^ m * 2 ^ (D - m) = 2 ^ D := by rw [← Nat.pow_add]; congr 1; omega
        have eN : 2 ^ n * 2 ^ (D - n) = 2 ^ D := by rw [← Nat.pow_add]; congr 1; omega
        have bY : (y % 2 ^ m + 1) * 2 ^ (D - m) ≤ 2 ^ D := by rw [← eM]; exact Nat.mul_le_mul_right _ ym
        have bX : x % 2 ^ n * 2 ^ (D - n) < 2 ^ D := by rw [← eN]; exact Nat.mul_lt_mul_of_pos_right xm (Nat.pow_pos (by omega))
        have hD := Nat.pow_pos (n := D) (show 0 < 2 by omega)
        have hB : ∀ z k : Nat, z / 2 ^ k < 2 → bitB z k = decide (z / 2 ^ k = 1) := by
          intro z k hz; unfold bitB
          rw [Nat.mod_eq_of_lt hz, Bool.eq_iff_iff]; simp
        rw [hB y m hy2, hB x n hx2, show D + 1 - (m + 1) = D - m from by omega, show D + 1 - (n + 1) = D - n from by omega]
        have e1 : (y + 1) * 2 ^ (D - m) = (y / 2 ^ m) * 2 ^ D + (y % 2 ^ m + 1) * 2 ^ (D - m) := by
          rw [← eM]
          conv => lhs; rw [← ey]
          rw [Nat.add_assoc, Nat.add_mul, Nat.mul_comm (2 ^ m) (y / 2 ^ m), Nat.mul_assoc]
        have e2 : x * 2 ^ (D - n) = (x / 2 ^ n) * 2 ^ D + (x % 2 ^ n) * 2 ^ (D - n) := by
          rw [← eN]
          conv => lhs; rw [← ex]
          rw [Nat.add_mul, Nat.mul_comm (2 ^ n) (x / 2 ^ n), Nat.mul_assoc]
        rw [e1, e2, ihh]
        generalize (y % 2 ^ m + 1) * 2 ^ (D - m) = u at *
        generalize (x % 2 ^ n) * 2 ^ (D - n) = v at *
        generalize 2 ^ D = T at *
        have c01 : ∀ q : Nat, q < 2 → q = 0 ∨ q = 1 := fun q hq => by omega
        rcases c01 _ hy2 with ha | ha <;> rcases c01 _ hx2 with hb | hb <;> rw [ha, hb]
        · simp
        · simp; omega
        · simp; omega
        · simp
end Go.Proofs.Ytdidahafbcddeaa

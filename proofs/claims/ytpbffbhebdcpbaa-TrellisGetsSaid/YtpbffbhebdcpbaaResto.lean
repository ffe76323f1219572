import Derived.Test.YtpbffbhebdcpbaaRestd
set_option linter.unusedVariables false
namespace Go.Proofs.Ytpbffbhebdcpbaa
open Go.RowKit

theorem sum_next (R n j : Nat) (h : j < n) : R - R % 2 ^ (n - (j + 1)) = R - R % 2 ^ (n - j) + if bitB R (n - 1 - j) then 2 ^ (n - 1 - j) else 0 := by
  have e : n - j = (n - 1 - j) + 1 := by omega
  have e2 : n - (j + 1) = n - 1 - j := by omega
  rw [e, e2]
  have hm : R % 2 ^ (n - 1 - j + 1) = R % 2 ^ (n - 1 - j) + if bitB R (n - 1 - j) then 2 ^ (n - 1 - j) else 0 := by
    rw [Nat.pow_succ, Nat.mod_mul]
    unfold bitB
    have : R / 2 ^ (n - 1 - j) % 2 = 0 ∨ R / 2 ^ (n - 1 - j) % 2 = 1 := by omega
    rcases this with h | h <;> simp [h]
  have hle := Nat.mod_le R (2 ^ (n - 1 - j + 1))
  rw [hm] at hle ⊢
  omega
/-! ### the statement on Rest -/
theorem restErr_ok {g n : Nat} (h : restErr g n = 0) : n ≤ 64 ∧ g < 131072 ∧ ∃ d, 1 ≤ d ∧ d ≤ 16 ∧ 2 ^ d ≤ g ∧ g < 2 ^ (d + 1) := by
  unfold restErr at h
  split at h
  · omega
  · rename_i hb
    split at h
    · omega
    · obtain ⟨h1, _, h3⟩ := badG_deg (by simpa using hb)
      exact ⟨by omega, h1, h3⟩
end Go.Proofs.Ytpbffbhebdcpbaa

/-
  slices.rotateCmpFunc over a row of ints that are read as Fin (M + 1).
-/
import Derived.Test.YtdidahafbcddeaaSymw
set_option linter.unusedVariables false
namespace Go.Proofs.Ytdidahafbcddeaa
open Go.RowKit Go.Shelf Go.Sort

/-- what rotate leaves -/
def RotP (M : Nat) (w0 : World) (blk off N a m b : Nat) (d : Array (Fin (M + 1))) (e : Ending) (w' : World) : Prop :=
  e = .returned (.tuple #[]) ∧ ∃ d', SrtW M w0 blk off N d' w' ∧ PermIn a b d d' ∧ ∀ k, d'[k]! = rotT d m (m - a) (b - m) k
set_option maxRecDepth 100000 in
set_option maxHeartbeats 800000 in
theorem sym_rotate (M blk off cap N a m b g : Nat) (cb : Array Value) (d : Array (Fin (M + 1))) (w0 w : World) (R : Row0 M w0 blk off N) (S : SrtW M w0 blk off N d w) (h1 : a < m) (h2 : m < b) (h3 : b ≤ N) (hN : N ≤ 1000) :
    Calls Try.prog 70 #[.slice (some ⟨blk, off, none⟩) N cap, .int .i64 (a : Int), .int .i64 (m : Int), .int .i64 (b : Int), .func (.func g) #[] cb] w (RotP M w0 blk off N a m b d) := by
  have hds := Lib.hid S.size
  go_enter Try.func70, Try.ntmps70
  go_wp2
  go_loopw [10, 11] (fun iv jv wr => ∃ (i j : Nat) (d' : Array (Fin (M + 1))), iv = .int .i64 (i : Int) ∧ jv = .int .i64 (j : Int) ∧ 0 < i ∧ 0 < j ∧ i ≤ m - a ∧ j ≤ b - m ∧ SrtW M w0 blk off N d' wr ∧ Hid (PermIn a b d d') ∧ Hid (∀ k, rotT d' m i j k = rotT d m (m - a) (b - m) k)) (fun iv jv _ => (intOf iv).toNat + (intOf jv).toNat)
  case atStart => exact ⟨m - a, b - m, d, by go_num, by go_num, by omega, by omega, Nat.le_refl _, Nat.le_refl _, S, permIn_refl _ _ _, fun _ => rfl⟩
  case round =>
    obtain ⟨i, j, d', rfl, rfl, i0, j0, hi, hj, S1, hp, hr⟩ := hrel
    obtain ⟨wo, rfl⟩ : ∃ x, x = wr := ⟨_, rfl⟩
    have hs1 := Lib.hid S1.size
    have em : ((m - i : Nat) : Int) = (m : Int) - (i : Int) := by omega
    clear S
    rcases Nat.lt_trichotomy i j with c | c | c
    · have x1 : decide ((i : Int) = (j : Int)) = false := decide_eq_false (by omega)
      have x2 : ¬ (i : Int) = (j : Int) := by omega
      have x3 : ¬ (j : Int) < (i : Int) := by omega
      have em2 : ((m + j - i : Nat) : Int) = (m : Int) + (j : Int) - (i : Int) := by omega
      have cs := sym_swapRange M blk off cap N (m - i) (m + j - i) i g cb d' w0 wo R S1 (by omega) (by omega) hN
      rw [em, em2] at cs
      clear em em2 S1
      go_wp2_with (go_at_call 72; refine cs.mono ?_; clear cs; rintro e w1 ⟨rfl, S2⟩)
      go_roundw
      case rel => exact ⟨i, j - i, _, rfl, by go_num, i0, by omega, hi, by omega, S2, permIn_trans _ _ _ _ _ hp.out (swR_perm d' i (by omega) (by omega) (by omega) (by omega) (by rw [hs1.out]; exact h3)), fun k => by rw [rot_lt c (by omega) (by rw [hs1.out]; omega)]; exact hr.out k⟩
      case measure => simp [intOf] <;> omega
    · subst c
      have cs := sym_swapRange M blk off cap N (m - i) m i g cb d' w0 wo R S1 (by omega) (by omega) hN
      rw [em] at cs
      clear em S1
      go_wp2_with (go_at_call 72; refine cs.mono ?_; clear cs; rintro e w1 ⟨rfl, S2⟩)
      go_end0
      exact ⟨rfl, _, S2, permIn_trans _ _ _ _ _ hp.out (swR_perm d' i (by omega) (by omega) (by omega) (by omega) (by rw [hs1.out]; exact h3)), fun k => by rw [rot_eq (by omega) (by rw [hs1.out]; omega)]; exact hr.out k⟩
    · have x1 : decide ((i : Int) = (j : Int)) = false := decide_eq_false (by omega)
      have x2 : ¬ (i : Int) = (j : Int) := by omega
      have x3 : (j : Int) < (i : Int) := by omega
      have cs := sym_swapRange M blk off cap N (m - i) m j g cb d' w0 wo R S1 (by omega) (by omega) hN
      rw [em] at cs
      clear em S1
      go_wp2_with (go_at_call 72; refine cs.mono ?_; clear cs; rintro e w1 ⟨rfl, S2⟩)
      go_roundw
      case rel => exact ⟨i - j, j, _, by go_num, rfl, by omega, j0, by omega, hj, S2, permIn_trans _ _ _ _ _ hp.out (swR_perm d' j (by omega) (by omega) (by omega) (by omega) (by rw [hs1.out]; exact h3)), fun k => by rw [rot_gt c (by omega) (by rw [hs1.out]; omega)]; exact hr.out k⟩
      case measure => simp [intOf] <;> omega
end Go.Proofs.Ytdidahafbcddeaa

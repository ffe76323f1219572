import Derived.Test.YtbhhijdpmpcdnaaProg
import Derived.Test.YtbhhijdpmpcdnaaBase
set_option linter.unusedVariables false
namespace Go.Proofs.Ytbhhijdpmpcdnaa
open Go.RowKit

def checkD (d row : Int) : Int := d - 1 - row % d
def placeD (d b : Int) : Int × Int := (if checkD d (b / (d - 1)) ≤ b % (d - 1) then b % (d - 1) + 1 else b % (d - 1), b / (d - 1))

theorem ret_iii {k k' k'' : IntKind} {a b a' b' a'' b'' : Int} (h : (a, a', a'') = (b, b', b'')) : Ending.returned (.tuple #[.int k a, .int k' a', .int k'' a'']) = .returned (.tuple #[.int k b, .int k' b', .int k'' b'']) := by
  simp only [Prod.mk.injEq] at h; rw [h.1, h.2.1, h.2.2]

set_option maxHeartbeats 400000 in
theorem stripe_check (d row b : Int) (w : World) (h1 : 3 ≤ d) (h2 : d ≤ 6) (h3 : 0 ≤ row) (h4 : row ≤ 1000) (hr : Hid (checkD d row = b)) :
    Calls Try.prog 27 #[.int .i64 d, .int .i64 row] w (Ret w (.int .i64 b)) := by
  have m1 : 0 ≤ row % d := Int.emod_nonneg _ (by omega)
  have m2 : row % d < d := Int.emod_lt_of_pos _ (by omega)
  go_enter Try.func27, Try.ntmps27
  go_wp2
  go_ret
  exact ⟨ret_i (by rw [← hr.out]; rfl), rfl⟩
set_option maxHeartbeats 400000 in
theorem stripe_place (d b x y : Int) (w : World) (h1 : 3 ≤ d) (h2 : d ≤ 6) (h3 : 0 ≤ b) (h4 : b < 24) (hr : Hid (placeD d b = (x, y))) :
    Calls Try.prog 19 #[.int .i64 d, .int .i64 b] w (Ret w (.tuple #[.int .i64 x, .int .i64 y])) := by
  have q1 : 0 ≤ b / (d - 1) := Int.ediv_nonneg h3 (by omega)
  have q2 : b / (d - 1) ≤ b := Int.ediv_le_self _ h3
  have m1 : 0 ≤ b % (d - 1) := Int.emod_nonneg _ (by omega)
  have m2 : b % (d - 1) < d - 1 := Int.emod_lt_of_pos _ (by omega)
  have c := stripe_check d (b / (d - 1)) _ w h1 h2 q1 (by omega) rfl
  by_cases hc : checkD d (b / (d - 1)) ≤ b % (d - 1)
  · have E : Hid (placeD d b = (b % (d - 1) + 1, b / (d - 1))) := by simp [Hid, placeD, hc]
    generalize checkD d (b / (d - 1)) = z at *
    go_enter Try.func19, Try.ntmps19
    go_wp2_with (go_at_call 27; refine c.mono ?_; rintro e w' ⟨rfl, rfl⟩)
    go_ret2
    exact ⟨ret_ii (by rw [← hr.out, E.out]), rfl⟩
  · have E : Hid (placeD d b = (b % (d - 1), b / (d - 1))) := by simp [Hid, placeD, hc]
    generalize checkD d (b / (d - 1)) = z at *
    go_enter Try.func19, Try.ntmps19
    go_wp2_with (go_at_call 27; refine c.mono ?_; rintro e w' ⟨rfl, rfl⟩)
    go_ret2
    exact ⟨ret_ii (by rw [← hr.out, E.out]), rfl⟩

def discsErr (d : Int) : Int := if d < 3 ∨ 6 < d then 4 else 0
set_option maxHeartbeats 400000 in
theorem law_discs (d b : Int) (w : World) (hr : Hid (discsErr d = b)) : Calls Try.prog 9 #[.int .i64 d] w (Ret w (.int .i64 b)) := by
  by_cases h : d < 3 ∨ 6 < d
  · have E : Hid (discsErr d = 4) := by simp [Hid, discsErr, h]
    by_cases h0 : d < 3
    all_goals
      go_enter Try.func9, Try.ntmps9
      go_wp2
      go_ret
      exact ⟨ret_i (by rw [← hr.out, E.out]), rfl⟩
  · have E : Hid (discsErr d = 0) := by simp [Hid, discsErr, h]
    have h1 : 3 ≤ d := by omega
    have h2 : d ≤ 6 := by omega
    go_enter Try.func9, Try.ntmps9
    go_wp2
    go_ret
    exact ⟨ret_i (by rw [← hr.out, E.out]), rfl⟩

def placeRes3 (d b : Int) : Int × Int × Int := if d < 3 ∨ 6 < d then (0, 0, 4) else if b < 0 ∨ 24 ≤ b then (0, 0, 2) else ((placeD d b).1, (placeD d b).2, 0)
set_option maxHeartbeats 400000 in
theorem stripe_Place (d b x y z : Int) (w : World) (hr : Hid (placeRes3 d b = (x, y, z))) :
    Calls Try.prog 13 #[.int .i64 d, .int .i64 b] w (Ret w (.tuple #[.int .i64 x, .int .i64 y, .int .i64 z])) := by
  by_cases h : d < 3 ∨ 6 < d
  · have E : Hid (placeRes3 d b = (0, 0, 4)) := by simp [Hid, placeRes3, h]
    by_cases h0 : d < 3
    all_goals
      go_enter Try.func13, Try.ntmps13
      go_wp2
      go_ret3
      exact ⟨ret_iii (by rw [← hr.out, E.out]), rfl⟩
  · have h1 : 3 ≤ d := by omega
    have h2 : d ≤ 6 := by omega
    by_cases hb : b < 0 ∨ 24 ≤ b
    · have E : Hid (placeRes3 d b = (0, 0, 2)) := by simp [Hid, placeRes3, h, hb]
      clear h
      by_cases h0 : b < 0
      all_goals
        go_enter Try.func13, Try.ntmps13
        go_wp2
        go_ret3
        exact ⟨ret_iii (by rw [← hr.out, E.out]), rfl⟩
    · have E : Hid (placeRes3 d b = ((placeD d b).1, (placeD d b).2, 0)) := by simp [Hid, placeRes3, h, hb]
      have h3 : 0 ≤ b := by omega
      have h4 : b < 24 := by omega
      have c := stripe_place d b (placeD d b).1 (placeD d b).2 w h1 h2 h3 h4 rfl
      generalize (placeD d b).1 = x' at *
      generalize (placeD d b).2 = y' at *
      clear h hb
      go_enter Try.func13, Try.ntmps13
      go_wp2_with (go_at_call 19; refine c.mono ?_; rintro e w' ⟨rfl, rfl⟩)
      go_ret3
      exact ⟨ret_iii (by rw [← hr.out, E.out]), rfl⟩

theorem check_next (d r : Int) (h1 : 3 ≤ d) (h2 : d ≤ 6) (h3 : 0 ≤ r) : checkD d (r + 1) = if checkD d r - 1 < 0 then d - 1 else checkD d r - 1 := by
  have hd : d = 3 ∨ d = 4 ∨ d = 5 ∨ d = 6 := by omega
  unfold checkD
  rcases hd with rfl | rfl | rfl | rfl <;> split <;> omega
theorem where_end (d r k b : Int) (h1 : 3 ≤ d) (h2 : d ≤ 6) (h3 : 0 ≤ k) (h4 : k < d - 1) (h : r * (d - 1) + k = b) : b / (d - 1) = r ∧ b % (d - 1) = k := by
  have hd : d = 3 ∨ d = 4 ∨ d = 5 ∨ d = 6 := by omega
  rcases hd with rfl | rfl | rfl | rfl <;> omega
end Go.Proofs.Ytbhhijdpmpcdnaa

import Derived.Test.YtglcljlafioleaaProg
import Derived.Test.YtglcljlafioleaaBase
set_option linter.unusedVariables false
namespace Go.Proofs.Ytglcljlafioleaa
open Go.RowKit

def checkD (d row : Int) : Int := d - 1 - row % d
def placeD (d b : Int) : Int × Int := (if checkD d (b / (d - 1)) ≤ b % (d - 1) then b % (d - 1) + 1 else b % (d - 1), b / (d - 1))

theorem ret_iii {k k' k'' : IntKind} {a b a' b' a'' b'' : Int} (h : (a, a', a'') = (b, b', b'')) : Ending.returned (.tuple #[.int k a, .int k' a', .int k'' a'']) = .returned (.tuple #[.int k b, .int k' b', .int k'' b'']) := by
  simp only [Prod.mk.injEq] at h; rw [h.1, h.2.1, h.2.2]

set_option maxHeartbeats 400000 in
theorem stripe_check (d row b : Int) (w : World) (h1 : 3 ≤ d) (h2 : d ≤ 6) (h3 : 0 ≤ row) (h4 : row ≤ 1000) (hr : Hid (checkD d row = b)) :
    Calls Try.prog 59 #[.int .i64 d, .int .i64 row] w (Ret w (.int .i64 b)) := by
  have m1 : 0 ≤ row % d := Int.emod_nonneg _ (by omega)
  have m2 : row % d < d := Int.emod_lt_of_pos _ (by omega)
  go_enter Try.func59, Try.ntmps59
  go_wp2
  go_ret
  exact ⟨ret_i (by rw [← hr.out]; rfl), rfl⟩
set_option maxHeartbeats 400000 in
theorem stripe_place (d b x y : Int) (w : World) (h1 : 3 ≤ d) (h2 : d ≤ 6) (h3 : 0 ≤ b) (h4 : b < 24) (hr : Hid (placeD d b = (x, y))) :
    Calls Try.prog 57 #[.int .i64 d, .int .i64 b] w (Ret w (.tuple #[.int .i64 x, .int .i64 y])) := by
  have q1 : 0 ≤ b / (d - 1) := Int.ediv_nonneg h3 (by omega)
  have q2 : b / (d - 1) ≤ b := Int.ediv_le_self _ h3
  have m1 : 0 ≤ b % (d - 1) := Int.emod_nonneg _ (by omega)
  have m2 : b % (d - 1) < d - 1 := Int.emod_lt_of_pos _ (by omega)
  have c := stripe_check d (b / (d - 1)) _ w h1 h2 q1 (by omega) rfl
  by_cases hc : checkD d (b / (d - 1)) ≤ b % (d - 1)
  · have E : Hid (placeD d b = (b % (d - 1) + 1, b / (d - 1))) := by simp [Hid, placeD, hc]
    generalize checkD d (b / (d - 1)) = z at *
    go_enter Try.func57, Try.ntmps57
    go_wp2_with (go_at_call 59; refine c.mono ?_; rintro e w' ⟨rfl, rfl⟩)
    go_ret2
    exact ⟨ret_ii (by rw [← hr.out, E.out]), rfl⟩
  · have E : Hid (placeD d b = (b % (d - 1), b / (d - 1))) := by simp [Hid, placeD, hc]
    generalize checkD d (b / (d - 1)) = z at *
    go_enter Try.func57, Try.ntmps57
    go_wp2_with (go_at_call 59; refine c.mono ?_; rintro e w' ⟨rfl, rfl⟩)
    go_ret2
    exact ⟨ret_ii (by rw [← hr.out, E.out]), rfl⟩

def discsErr (d : Int) : Int := if d < 3 ∨ 6 < d then 4 else 0
set_option maxHeartbeats 400000 in
theorem law_discs (d b : Int) (w : World) (hr : Hid (discsErr d = b)) : Calls Try.prog 25 #[.int .i64 d] w (Ret w (.int .i64 b)) := by
  by_cases h : d < 3 ∨ 6 < d
  · have E : Hid (discsErr d = 4) := by simp [Hid, discsErr, h]
    by_cases h0 : d < 3
    all_goals
      go_enter Try.func25, Try.ntmps25
      go_wp2
      go_ret
      exact ⟨ret_i (by rw [← hr.out, E.out]), rfl⟩
  · have E : Hid (discsErr d = 0) := by simp [Hid, discsErr, h]
    have h1 : 3 ≤ d := by omega
    have h2 : d ≤ 6 := by omega
    go_enter Try.func25, Try.ntmps25
    go_wp2
    go_ret
    exact ⟨ret_i (by rw [← hr.out, E.out]), rfl⟩

def placeRes3 (d b : Int) : Int × Int × Int := if d < 3 ∨ 6 < d then (0, 0, 4) else if b < 0 ∨ 24 ≤ b then (0, 0, 2) else ((placeD d b).1, (placeD d b).2, 0)
theorem check_next (d r : Int) (h1 : 3 ≤ d) (h2 : d ≤ 6) (h3 : 0 ≤ r) : checkD d (r + 1) = if checkD d r - 1 < 0 then d - 1 else checkD d r - 1 := by
  have hd : d = 3 ∨ d = 4 ∨ d = 5 ∨ d = 6 := by omega
  unfold checkD
  rcases hd with rfl | rfl | rfl | rfl <;> split <;> omega
theorem where_end (d r k b : Int) (h1 : 3 ≤ d) (h2 : d ≤ 6) (h3 : 0 ≤ k) (h4 : k < d - 1) (h : r * (d - 1) + k = b) : b / (d - 1) = r ∧ b % (d - 1) = k := by
  have hd : d = 3 ∨ d = 4 ∨ d = 5 ∨ d = 6 := by omega
  rcases hd with rfl | rfl | rfl | rfl <;> omega
set_option maxHeartbeats 400000 in
theorem ref_Where (d b x y : Int) (w : World) (h1 : 3 ≤ d) (h2 : d ≤ 6) (h3 : 0 ≤ b) (h4 : b < 24) (hr : Hid (placeD d b = (x, y))) :
    Calls Try.prog 46 #[.int .i64 d, .int .i64 b] w (Ret w (.tuple #[.int .i64 x, .int .i64 y])) := by
  go_enter Try.func46, Try.ntmps46
  go_wp2
  go_loop [1, 6, 7] (fun bl ro ch => ∃ k r c : Int, bl = .int .i64 k ∧ ro = .int .i64 r ∧ ch = .int .i64 c ∧ 0 ≤ k ∧ 0 ≤ r ∧ 2 * r + k ≤ b ∧ 0 ≤ c ∧ c ≤ d - 1 ∧ Hid (r * (d - 1) + k = b) ∧ Hid (c = checkD d r)) (fun bl _ _ => (intOf bl).toNat)
  case atStart => exact ⟨b, 0, d - 1, rfl, rfl, rfl, h3, by omega, by omega, by omega, by omega, by simp [Hid], by simp [Hid, checkD]⟩
  case round =>
    obtain ⟨k, r, c, rfl, rfl, rfl, hk, hr0, hb, hc0, hc1, he, hc⟩ := hrel
    by_cases hlt : d - 1 ≤ k
    · have HE : Hid ((r + 1) * (d - 1) + (k - (d - 1)) = b) := by unfold Hid; rw [← he.out, Int.add_mul]; omega
      have HC : Hid (checkD d (r + 1) = if c - 1 < 0 then d - 1 else c - 1) := by unfold Hid; rw [check_next d r h1 h2 hr0, ← hc.out]
      by_cases hcz : c - 1 < 0
      · have HC' : Hid (checkD d (r + 1) = d - 1) := by have := HC.out; rw [if_pos hcz] at this; exact this
        clear HC
        go_wp2
        go_round
        case rel => exact ⟨k - (d - 1), r + 1, d - 1, by go_num, rfl, rfl, by omega, by omega, by omega, by omega, by omega, HE, by unfold Hid; rw [HC'.out]⟩
        case measure => simp [intOf]; omega
      · have HC' : Hid (checkD d (r + 1) = c - 1) := by have := HC.out; rw [if_neg hcz] at this; exact this
        clear HC
        go_wp2
        go_round
        case rel => exact ⟨k - (d - 1), r + 1, c - 1, by go_num, rfl, rfl, by omega, by omega, by omega, by omega, by omega, HE, by unfold Hid; rw [HC'.out]⟩
        case measure => simp [intOf]; omega
    · obtain ⟨e1, e2⟩ := where_end d r k b h1 h2 hk (by omega) he.out
      have E : Hid (placeD d b = (if c ≤ k then k + 1 else k, r)) := by unfold Hid placeD; rw [e1, e2, ← hc.out]
      clear e1 e2
      by_cases hck : c ≤ k
      · have E' : Hid (placeD d b = (k + 1, r)) := by have := E.out; rw [if_pos hck] at this; exact this
        clear E
        go_wp2
        go_ret2
        exact ⟨ret_ii (by rw [← hr.out, E'.out]), rfl⟩
      · have E' : Hid (placeD d b = (k, r)) := by have := E.out; rw [if_neg hck] at this; exact this
        clear E
        go_wp2
        go_ret2
        exact ⟨ret_ii (by rw [← hr.out, E'.out]), rfl⟩

end Go.Proofs.Ytglcljlafioleaa

import Derived.Test.YtdidahafbcddeaaProg
import Derived.Test.YtdidahafbcddeaaBase
import Derived.BigQuiet
import Derived.Deep.QuietTactic
set_option linter.unusedVariables false
namespace Go.Proofs.Ytdidahafbcddeaa
open Go.RowKit

set_option maxHeartbeats 400000 in
theorem ref_Bools (A A' : Option Addr) (n n' c c' : Nat) (l l' : List Bool) (b : Bool) (w : World) {B B' : Nat} (h : Reads w B A n (vb l)) (h' : Reads w B' A' n' (vb l')) (hn : n ≤ maxLen) (hr : Hid (decide (l = l') = b)) :
    Calls Try.prog 10 #[.slice A n c, .slice A' n' c'] w (RetQ w (.bool b)) := by
  have H : Hid (l.length = n) := by have := h.len; rwa [List.length_map] at this
  have H' : Hid (l'.length = n') := by have := h'.len; rwa [List.length_map] at this
  unfold maxLen at hn
  by_cases hne : n = n'
  · subst hne
    go_enter Try.func10, Try.ntmps10
    go_wp2
    go_loopw [5] (fun i wr => ∃ k m : Nat, k ≤ n ∧ i = .int .i64 k ∧ wr = w.drewN m ∧ Hid (l.take k = l'.take k)) (fun i _ => n - (intOf i).toNat)
    case atStart => exact ⟨0, 0, by omega, rfl, rfl, rfl⟩
    case round =>
      obtain ⟨k, m, hk, rfl, rfl, hall⟩ := hrel
      by_cases hlt : k < n
      · obtain ⟨ad, x, rfl, hb, hx, hc⟩ := h.bool_at hlt
        obtain ⟨ad', x', rfl, hb', hx', hc'⟩ := h'.bool_at hlt
        have HX := Lib.hid hx
        have HX' := Lib.hid hx'
        clear hx hx'
        have i1 : (0 : Int) ≤ (k : Int) := by omega
        have i2 : (k : Int) < (n : Int) := by omega
        by_cases he : x = x'
        · subst he
          have ht : (x != x) = false := by simp
          have HA : Hid (l.take (k + 1) = l'.take (k + 1)) := by unfold Hid; rw [take_next HX.out, take_next HX'.out, hall.out]
          go_wp2
          go_quiet (fail)
          go_wp2
          go_roundw
          case rel => exact ⟨k + 1, m + nq, by omega, by go_num, by first | rfl | rw [World.drewN_drewN], HA⟩
          case measure => simp [intOf]; omega
        · have ht : (x != x') = true := by simpa using he
          have HB : Hid (b = false) := by
            unfold Hid; rw [← hr.out]; simp only [decide_eq_false_iff_not]
            intro e; subst e; have := HX.out.symm.trans HX'.out; injection this with this; exact he this
          obtain rfl : x' = !x := by cases x <;> cases x' <;> simp_all
          clear he ht
          cases x
          all_goals
            go_wp2
            go_quiet (fail)
            go_wp2
            go_ret
            exact ⟨ret_b HB.out.symm, m + nq, by first | rfl | rw [World.drewN_drewN]⟩
      · obtain rfl : k = n := by omega
        have HB : Hid (b = true) := by
          unfold Hid; rw [← hr.out]; simp only [decide_eq_true_eq]
          have := hall.out
          rwa [List.take_of_length_le (Nat.le_of_eq H.out), List.take_of_length_le (Nat.le_of_eq H'.out)] at this
        go_wp2
        go_ret
        exact ⟨ret_b HB.out.symm, m, rfl⟩
  · have HB : Hid (b = false) := by
      unfold Hid; rw [← hr.out]; simp only [decide_eq_false_iff_not]
      intro e; subst e; exact hne (H.out.symm.trans H'.out)
    have ht : ((n : Int) != (n' : Int)) = true := by simp; omega
    go_enter Try.func10, Try.ntmps10
    go_wp2
    go_ret
    exact ⟨ret_b HB.out.symm, 0, rfl⟩

end Go.Proofs.Ytdidahafbcddeaa

/-
  TrellisGets: the program's answer and the reference's are both the best data; there is one best only.
-/
import Derived.Test.YtpbffbhebdcpbaaTvg
import Derived.Test.YtpbffbhebdcpbaaTvr
set_option linter.unusedVariables false
namespace Go.Proofs.Ytpbffbhebdcpbaa
open Go.RowKit

set_option maxHeartbeats 800000 in
theorem TrellisGets_walk (A : Option Addr) (m c : Nat) (L : List Bool) (w : World) (h : Reads w w.heap.size A m (vb L)) (hb : m * 1 ≤ reachBytes) :
    Calls Try.prog 3 #[.slice A m c] w (LawTrue w) := by
  have hm : m ≤ 9000000000000000000 := by unfold reachBytes at hb; omega
  clear hb
  rcases Nat.mod_two_eq_zero_or_one m with h2 | h2
  · by_cases h4 : m < 4
    · have c1 := trellis_Get_odd A m c w hm (.inr h4)
      have h4 : (m : Int) < 4 := by omega
      have hq : (m : Int) % 2 = 0 := by omega
      go_enter Try.func3, Try.ntmps3
      go_wp2_with (go_at_call 7; refine c1.mono ?_; rintro e w1 ⟨rfl, rfl⟩)
      go_ret
      exact .same _
    · by_cases hf : 28 < m
      · have c1 := trellis_Get_far A m c w hm h2 hf
        have hq : (m : Int) % 2 = 0 := by omega
        have h4 : ¬ (m : Int) < 4 := by omega
        have h12 : (12 : Int) < (m : Int) / 2 - 2 := by omega
        go_enter Try.func3, Try.ntmps3
        go_wp2_with (go_at_call 7; refine c1.mono ?_; rintro e w1 ⟨rfl, rfl⟩)
        go_ret
        exact .same _
      · obtain ⟨n, hn⟩ : ∃ n, m = 2 * (n + 2) := ⟨m / 2 - 2, by omega⟩
        have hn12 : n ≤ 12 := by omega
        have c1 := trellis_Get A n m c L w h hn hn12
        have c2 := fun (w1 : World) (hb : Below w.heap.size w w1) => ref_Trellises A n m c L w1 ((h.below hb).more hb.size) hn hn12
        have hq : (m : Int) % 2 = 0 := by omega
        have h4 : ¬ (m : Int) < 4 := by omega
        have h12 : ¬ (12 : Int) < (m : Int) / 2 - 2 := by omega
        clear hn h
        go_enter Try.func3, Try.ntmps3
        go_wp2_with (first
          | (go_at_call 7; refine c1.mono ?_; clear c1; rintro e w1 ⟨A1, n1, k1, d1, x1, rfl, hv1, hr1, hb1⟩; have c2 := c2 w1 hb1)
          | (go_at_call 8; refine c2.mono ?_; clear c2; rintro e w2 ⟨A2, n2, k2, d2, x2, rfl, hv2, hr2, hb2⟩; obtain ⟨hd, hx⟩ := hv1.uniq hv2; subst hd; subst hx; have hr3 := (hr1.below hb2).more hb2.size; have hl := hr2.bool_len; have hl2 := Lib.hid hv1.1; have c3 := ref_Bools A1 A2 n1 n2 k1 k2 _ _ true w2 hr3 hr2 (by have := hr3.bool_len; have := hl2.out; unfold maxLen; omega) (by simp [Hid]); clear hv1 hv2 hl hr1 hr2 hr3)
          | (go_at_call 9; refine c3.mono ?_; rintro e w3 ⟨rfl, m3, rfl⟩))
        go_ret
        exact ⟨rfl, below_drewN (hb1.trans (hb2.mono hb1.size)) _⟩
  · have c1 := trellis_Get_odd A m c w hm (.inl h2)
    have hq : (m : Int) % 2 = 1 := by omega
    go_enter Try.func3, Try.ntmps3
    go_wp2_with (go_at_call 7; refine c1.mono ?_; rintro e w1 ⟨rfl, rfl⟩)
    go_ret
    exact .same _
end Go.Proofs.Ytpbffbhebdcpbaa

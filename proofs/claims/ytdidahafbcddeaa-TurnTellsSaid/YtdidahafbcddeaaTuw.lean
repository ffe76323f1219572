/-
  TurnTells: the program and the reference tell the same turns.
-/
import Derived.Test.YtdidahafbcddeaaTuv
set_option linter.unusedVariables false
namespace Go.Proofs.Ytdidahafbcddeaa
open Go.RowKit Go.Shelf Go.Sort

set_option maxHeartbeats 800000 in
theorem TurnTells_walk (A : Option Addr) (n c : Nat) (T : List Nat) (w : World) (h : Reads w w.heap.size A n (vn .u8 T)) (hB : ∀ x ∈ T, x < 256) (hm : n * 1 ≤ reachBytes) (hc : n ≤ c) :
    Calls Try.prog 6 #[.slice A n c] w (LawTrue w) := by
  by_cases hn : 64 < n
  · have hz : (64 : Int) < (n : Int) := by omega
    have c1 : Calls Try.prog 18 #[.slice A n c] w (Ret w (.tuple #[.slice none 0 0, .int .i64 0, .int .i64 1])) := by
      go_enter Try.func18, Try.ntmps18
      go_wp2
      go_ret3
      exact ⟨rfl, rfl⟩
    go_enter Try.func6, Try.ntmps6
    go_wp2_with (go_at_call 18; refine c1.mono ?_; rintro e w1 ⟨rfl, rfl⟩)
    go_ret
    exact .same _
  · have hz : ¬ (64 : Int) < (n : Int) := by omega
    have c1 := turn_Turn A n c T w h hB (by omega)
    have c2 := fun (w1 : World) (hb : Below w.heap.size w w1) => ref_Turned A n c T w1 ((h.below hb).more hb.size) hB (by omega) hc
    have HL := Lib.hid h.nat_len
    clear h hm
    go_enter Try.func6, Try.ntmps6
    go_wp2_with (first
      | (go_at_call 18; refine c1.mono ?_; clear c1; rintro e w1 ⟨A1, n1, k1, o1, a1, rfl, ht1, hr1, hb1⟩; have c2 := c2 w1 hb1)
      | (go_at_call 19; refine c2.mono ?_; clear c2; rintro e w2 ⟨A2, n2, k2, o2, a2, rfl, ht2, hr2, hb2⟩; obtain ⟨ho, ha⟩ := ht1.uniq ht2; subst ho; subst ha; have hr3 := (hr1.below hb2).more hb2.size; have hl := ht1.len; have c3 := ref_Bytes A1 A2 n1 n2 k1 k2 o1 o1 true w2 hr3 hr2 (by have := hr3.nat_len; have := HL.out; unfold maxLen; omega) (by simp [Hid]); clear ht1 ht2 hl hr1 hr2 hr3)
      | (go_at_call 20; refine c3.mono ?_; clear c3; rintro e w3 ⟨rfl, m3, rfl⟩))
    go_ret
    exact ⟨rfl, below_drewN (hb1.trans (hb2.mono hb1.size)) _⟩
end Go.Proofs.Ytdidahafbcddeaa

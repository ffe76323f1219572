import Derived.Test.YtdidahafbcddeaaProg
import Derived.Test.YtdidahafbcddeaaOwn
set_option linter.unusedVariables false
namespace Go.Proofs.Ytdidahafbcddeaa
open Go.RowKit

theorem el_clone_bools : Elem Try.prog 22 4 (.bool false) 1 := Elem.mk' Try.underlying22 (by kernel_rfl) rfl
set_option maxHeartbeats 400000 in
theorem clone_bools (A : Option Addr) (n c : Nat) (vs : List Value) (w : World) (h : Reads w w.heap.size A n vs) (h1 : ∀ u ∈ vs, u.oneCell' = true) (hn : n ≤ 1000000) :
    Calls Try.prog 24 #[.slice A n c] w (RetS w 4 vs) := by
  have qn : ∀ (w : World) (a : Option Addr) (n c n' c' : Nat), (binOp .eql 22 (.slice a n c) (.slice none n' c')).run Try.prog w = .ok (.bool a.isNone) w := fun w a n c n' c' => Lib.run_eql_slice_nil w _ _ a n c n' c' Try.underlying22
  rcases A with _ | ad
  · have hn0 : n = 0 := by
      rcases Nat.eq_zero_or_pos n with h0 | h0
      · exact h0
      · obtain ⟨ad, e, _⟩ := h.cells h0; cases e
    subst hn0
    have hv : vs = [] := List.eq_nil_of_length_eq_zero h.len
    subst hv
    go_enter Try.func24, Try.ntmps24
    go_wp2
    go_ret
    exact ⟨none, 0, 0, rfl, Own.nil _ _ _, Below.refl _ _⟩
  · have ho : Own (w.alloc (.cells #[] 4)) w.heap.size 4 (.slice (some ⟨w.heap.size, 0, none⟩) 0 0) [] := Own.built w #[] 0 rfl (by unfold maxLen; omega) (Nat.le_refl _)
    have hr : Reads (w.alloc (.cells #[] 4)) w.heap.size (some ad) n vs := h.alloc (Nat.le_refl _) _
    have hb : Below w.heap.size w (w.alloc (.cells #[] 4)) := (Below.refl _ _).alloc (Nat.le_refl _) _
    go_enter Try.func24, Try.ntmps24
    go_wp2_with (at_builtin; refine appN el_clone_bools rfl _ _ rfl rfl ho rfl hr h1 (by simp; unfold maxLen; omega) (by simp; omega) hb.size ?_; intro v1 w1 ho1 hb1 _ _)
    obtain ⟨A1, c1, e1⟩ := ho1.form
    subst e1
    go_ret
    exact ⟨A1, _, c1, rfl, by simpa using ho1, hb.trans hb1⟩

end Go.Proofs.Ytdidahafbcddeaa

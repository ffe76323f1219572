import Derived.Test.YtdidahafbcddeaaProg
import Derived.Test.YtdidahafbcddeaaAppz
set_option linter.unusedVariables false
namespace Go.Proofs.Ytdidahafbcddeaa
open Go.RowKit

theorem el_concat_bytes : Elem Try.prog 42 5 (.int .u8 0) 1 := Elem.mk' Try.underlying42 (by kernel_rfl) rfl
set_option maxRecDepth 8192 in
set_option maxHeartbeats 600000 in
theorem grow_concat_bytes (n : Nat) (w : World) (hn : n ≤ 1000000) :
    Calls Try.prog 55 #[.slice none 0 0, .int .i64 (n : Int)] w (RetS w 5 []) := by
  by_cases h0 : n = 0
  · subst h0
    go_enter Try.func55, Try.ntmps55
    go_wp2
    go_ret
    exact ⟨none, 0, 0, rfl, Own.nil _ _ _, Below.refl _ _⟩
  · obtain ⟨v1, w1, hr, ho1, hg1, _⟩ := run_appZ (w := w) (base := w.heap.size) (tn := 3) el_concat_bytes 42 Try.underlying3 (Own.nil w w.heap.size 5) n (by omega) rfl (by unfold maxLen; simp; omega) (by simp; omega) (Nat.le_refl _)
    obtain ⟨A1, c1, e1⟩ := ho1.form
    have hl : ([] ++ List.replicate n (.int .u8 0) : List Value).length = n := by simp
    rw [hl] at e1
    subst e1
    have hb1 := grown_below hg1 (Nat.le_refl _) (fun j hj => by cases hj)
    obtain ⟨ad, rfl⟩ : ∃ ad, A1 = some ad := by
      obtain ⟨ad, e, _⟩ := ho1.reads.cells (by omega)
      exact ⟨ad, e⟩
    have hcap := ho1.capLe'
    have ho2 : Own w1 w.heap.size 5 (.slice (some ad) 0 c1) [] := ho1.cut0
    have hpos : (0 : Int) < (n : Int) := by omega
    have hc63 := ho1.capMax
    unfold maxLen at hc63
    clear ho1 hl
    go_enter Try.func55, Try.ntmps55
    go_wp2_with (at_builtin; refine Lib.wpList_append_run _ rfl _ _ _ _ rfl _ _ rfl rfl _ _ hr ?_)
    go_ret
    exact ⟨some ad, 0, c1, rfl, ho2, hb1⟩
set_option maxHeartbeats 800000 in
theorem concat_bytes (A : Option Addr) (n c : Nat) (xss : List (List Value)) (w : World) (h : Rows w w.heap.size A n xss) (h1 : ∀ xs ∈ xss, ∀ u ∈ xs, u.oneCell' = true) (hn : n ≤ 1000) (hs : xss.flatten.length ≤ 1000000) :
    Calls Try.prog 37 #[.slice A n c] w (RetS w 5 xss.flatten) := by
  have H := Lib.hid h.length
  have HS := Lib.hid hs
  have H1 := Lib.hid h1
  have hpre : Hid (∀ k, (xss.take k).flatten.length ≤ xss.flatten.length) := fun k => by
    conv => rhs; rw [← List.take_append_drop k xss, List.flatten_append, List.length_append]
    omega
  clear hs h1
  go_enter Try.func37, Try.ntmps37
  go_wp2
  go_loop [3, 11] (fun s i => ∃ k : Nat, k ≤ n ∧ i = .int .i64 k ∧ s = .int .i64 ((xss.take k).flatten.length : Int)) (fun _ i => n - (intOf i).toNat)
  case atStart => exact ⟨0, by omega, rfl, rfl⟩
  case round =>
    obtain ⟨k, hk, rfl, rfl⟩ := hrel
    by_cases hlt : k < n
    · obtain ⟨ad, xs, A', n', c', e, hb, hx, hc, h2⟩ := h.row hlt
      subst e
      have HN : Hid ((xss.take (k + 1)).flatten.length = (xss.take k).flatten.length + n') := by
        unfold Hid; rw [take_next hx, List.flatten_append, List.length_append]; simp [h2.len]
      have b1 := hpre.out k
      have b2 := hpre.out (k + 1)
      rw [HN.out] at b2
      have b3 := HS.out
      clear hx h2
      generalize (xss.take k).flatten.length = q at *
      generalize xss.flatten.length = z at *
      go_wp2
      go_round
      case rel => exact ⟨k + 1, by omega, by go_num, by rw [HN.out]; go_num⟩
      case measure => simp [intOf]; omega
    · obtain rfl : k = n := by omega
      rw [List.take_of_length_le (Nat.le_of_eq H.out)]
      have b3 := HS.out
      have cg := grow_concat_bytes xss.flatten.length w b3
      generalize xss.flatten.length = z at *
      go_wp2_with (go_at_call 55; refine cg.mono ?_; clear cg; rintro e w1 ⟨A1, n1, c1, rfl, ho1, hb1⟩)
      go_loopw [6, 27] (fun v i wr => ∃ j : Nat, j ≤ k ∧ i = .int .i64 j ∧ Own wr w.heap.size 5 v (xss.take j).flatten ∧ Below w.heap.size w wr) (fun _ i _ => k - (intOf i).toNat)
      case atStart => exact ⟨0, by omega, rfl, ho1, hb1⟩
      case round =>
        obtain ⟨j, hj, rfl, hown, hb⟩ := hrel
        by_cases hlt2 : j < k
        · obtain ⟨ad, xs, A', n', c', e, hbb, hx, hc, h2⟩ := (h.below hb).row hlt2
          subst e
          have h11 := H1.out xs (mem_at hx)
          have HN : Hid ((xss.take (j + 1)).flatten = (xss.take j).flatten ++ xs) := by
            unfold Hid; rw [take_next hx, List.flatten_append]; simp
          have b2 : (xss.take j).flatten.length + n' ≤ z := by
            have := hpre.out (j + 1)
            rw [HN.out, List.length_append, h2.len] at this; exact this
          have hB := hb.size
          have h3 := Lib.hid h2
          clear hx h2
          go_wp2_with (at_builtin; refine appN el_concat_bytes rfl _ _ rfl rfl hown rfl h3.out h11 (by unfold maxLen; omega) (by omega) hB ?_; intro v2 w2 ho2 hb2 _ _)
          go_roundw
          case rel => exact ⟨j + 1, by omega, by go_num, by rw [HN.out]; exact ho2, hb.trans hb2⟩
          case measure => simp only [intOf]; omega
        · obtain rfl : j = k := by omega
          rw [List.take_of_length_le (Nat.le_of_eq H.out)] at hown
          obtain ⟨A2, c2, e2⟩ := hown.form
          generalize hn2 : xss.flatten.length = n2 at e2
          subst e2
          clear hn2
          go_wp2
          go_ret
          exact ⟨A2, n2, c2, rfl, hown, hb⟩

/-- of two, just laid side by side -/
theorem concat_bytes2 (A1 A2 : Option Addr) (n1 n2 c1 c2 : Nat) (x1 x2 : List Value) (w : World) (h1 : Reads w w.heap.size A1 n1 x1) (h2 : Reads w w.heap.size A2 n2 x2) (o1 : ∀ u ∈ x1, u.oneCell' = true) (o2 : ∀ u ∈ x2, u.oneCell' = true) (hs : n1 + n2 ≤ 1000000) :
    Calls Try.prog 37 #[.slice (some ⟨w.heap.size, 0, none⟩) 2 2] (w.alloc (.cells #[.slice A1 n1 c1, .slice A2 n2 c2] 42)) (RetS w 5 (x1 ++ x2)) := by
  have hr := rows_two (c1 := c1) (c2 := c2) 42 h1 h2
  have l1 := h1.len
  have l2 := h2.len
  refine (concat_bytes _ 2 2 [x1, x2] (w.alloc (.cells #[.slice A1 n1 c1, .slice A2 n2 c2] 42)) (by simpa using hr) (by intro xs hx u hu; simp at hx; rcases hx with rfl | rfl; exact o1 u hu; exact o2 u hu) (by omega) (by simp; omega)).mono ?_
  rintro e w' ⟨A, n, c, rfl, ho, hb⟩
  refine ⟨A, n, c, rfl, ?_, ((Below.refl _ _).alloc (Nat.le_refl _) _).trans (hb.mono (by simp))⟩
  have := ho.low (B := w.heap.size) (by simp)
  simpa using this
theorem concat_bytes3 (A1 A2 A3 : Option Addr) (n1 n2 n3 c1 c2 c3 : Nat) (x1 x2 x3 : List Value) (w : World) (h1 : Reads w w.heap.size A1 n1 x1) (h2 : Reads w w.heap.size A2 n2 x2) (h3 : Reads w w.heap.size A3 n3 x3) (o1 : ∀ u ∈ x1, u.oneCell' = true) (o2 : ∀ u ∈ x2, u.oneCell' = true) (o3 : ∀ u ∈ x3, u.oneCell' = true) (hs : n1 + n2 + n3 ≤ 1000000) :
    Calls Try.prog 37 #[.slice (some ⟨w.heap.size, 0, none⟩) 3 3] (w.alloc (.cells #[.slice A1 n1 c1, .slice A2 n2 c2, .slice A3 n3 c3] 42)) (RetS w 5 (x1 ++ x2 ++ x3)) := by
  have hr := rows_three (c1 := c1) (c2 := c2) (c3 := c3) 42 h1 h2 h3
  have l1 := h1.len
  have l2 := h2.len
  have l3 := h3.len
  refine (concat_bytes _ 3 3 [x1, x2, x3] (w.alloc (.cells #[.slice A1 n1 c1, .slice A2 n2 c2, .slice A3 n3 c3] 42)) (by simpa using hr) (by intro xs hx u hu; simp at hx; rcases hx with rfl | rfl | rfl; exact o1 u hu; exact o2 u hu; exact o3 u hu) (by omega) (by simp; omega)).mono ?_
  rintro e w' ⟨A, n, c, rfl, ho, hb⟩
  refine ⟨A, n, c, rfl, ?_, ((Below.refl _ _).alloc (Nat.le_refl _) _).trans (hb.mono (by simp))⟩
  have := ho.low (B := w.heap.size) (by simp)
  simpa using this

end Go.Proofs.Ytdidahafbcddeaa

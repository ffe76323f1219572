/-
  TurnBacks: the program and the reference tell the same text, or that there is none.
-/
import Derived.Test.YtdidahafbcddeaaTuy
import Derived.Test.YtdidahafbcddeaaTub
set_option linter.unusedVariables false
namespace Go.Proofs.Ytdidahafbcddeaa
open Go.RowKit Go.Shelf Go.Sort

theorem unt_nil (A : Option Addr) (c : Nat) (z : Int) (R : Bool) (w : World) (hR : Hid (decide (z = 0) = R)) : Calls Try.prog 22 #[.slice A 0 c, .int .i64 z] w (Ret w (.tuple #[.slice none 0 0, .bool R])) := by
  by_cases h : z = 0
  · subst h
    have HR : Hid (R = true) := by unfold Hid; rw [← hR.out]; rfl
    go_enter Try.func22, Try.ntmps22
    go_wp2
    go_ret2
    rw [HR.out]
    exact ⟨rfl, rfl⟩
  · have h2 : (z == 0) = false := by rw [beq_eq_false_iff_ne]; exact h
    have HR : Hid (R = false) := by unfold Hid; rw [← hR.out]; exact decide_eq_false h
    go_enter Try.func22, Try.ntmps22
    go_wp2
    go_ret2
    rw [HR.out]
    exact ⟨rfl, rfl⟩
theorem unt_out (A : Option Addr) (n c : Nat) (z : Int) (w : World) (h0 : 0 < n) (hz : z < 0 ∨ (n : Int) ≤ z) : Calls Try.prog 22 #[.slice A n c, .int .i64 z] w (Ret w (.tuple #[.slice none 0 0, .bool false])) := by
  have h2 : ((n : Int) == 0) = false := by rw [beq_eq_false_iff_ne]; omega
  have h3 : ¬ (n : Int) = 0 := by omega
  rcases Int.lt_or_le z 0 with hz0 | hz0
  · clear hz
    go_enter Try.func22, Try.ntmps22
    go_wp2
    go_ret2
    exact ⟨rfl, rfl⟩
  · have h4 : (n : Int) ≤ z := by omega
    have h5 : ¬ z < 0 := by omega
    clear hz
    go_enter Try.func22, Try.ntmps22
    go_wp2
    go_ret2
    exact ⟨rfl, rfl⟩
set_option maxHeartbeats 800000 in
theorem turnBacks_in (A : Option Addr) (n c a : Nat) (last : List Nat) (w : World) (h : Reads w w.heap.size A n (vn .u8 last)) (hB : Byt last) (hn : n ≤ 64) (ha : a < n) :
    Calls Try.prog 7 #[.slice A n c, .int .i64 (a : Int)] w (LawTrue w) := by
  have hz : ¬ (64 : Int) < (n : Int) := by omega
  have HL := Lib.hid h.nat_len
  have c1 := turn_Back A n c (n - 1) a last w h hB hn (show n = n - 1 + 1 by omega) ha
  have c2 := fun (w1 : World) (hb : Below w.heap.size w w1) => ref_Unturned A n c a last w1 ((h.below hb).more hb.size) hB hn ha
  by_cases hT : ∃ T, T.length = n ∧ Byt T ∧ TurnR T last a
  · obtain ⟨T, hTl, hTb, hTt⟩ := hT
    have c3 : Calls Try.prog 21 #[.slice A n c, .int .i64 (a : Int)] w (fun e w' => Below w.heap.size w w' ∧ ∃ A' c', e = .returned (.tuple #[.slice A' n c', .int .i64 0]) ∧ Reads w' w'.heap.size A' n (vn .u8 T)) := by
      refine c1.mono ?_
      rintro e w' ⟨p, hp1, hp2, hp3, hb, hor⟩
      obtain rfl := hp3 T hTb hTt
      rcases hor with ⟨_, A', n', c', rfl, hr⟩ | ⟨hno, _⟩
      · obtain rfl : n = n' := by have := hr.nat_len; omega
        exact ⟨hb, A', c', rfl, hr⟩
      · exact absurd hTt hno
    have c4 : ∀ w1 : World, Below w.heap.size w w1 → Calls Try.prog 22 #[.slice A n c, .int .i64 (a : Int)] w1 (fun e w' => Below w1.heap.size w1 w' ∧ ∃ A' c', e = .returned (.tuple #[.slice A' n c', .bool true]) ∧ Reads w' w'.heap.size A' n (vn .u8 T)) := by
      intro w1 hb1
      refine (c2 w1 hb1).mono ?_
      rintro e w' ⟨q, hq1, hq2, hq3, hb, A', c', R, rfl, hr, hR⟩
      obtain rfl := hq3 T hTb hTt
      obtain rfl : R = true := hR.2 hTt
      exact ⟨hb, A', c', rfl, hr⟩
    have HTL := Lib.hid hTl
    clear c1 c2 hTl hTb hTt h hB
    go_enter Try.func7, Try.ntmps7
    go_wp2_with (first
      | (go_at_call 21; refine c3.mono ?_; clear c3; rintro e w1 ⟨hb1, A1, k1, rfl, hr1⟩; have c4 := c4 w1 hb1)
      | (go_at_call 22; refine c4.mono ?_; clear c4; rintro e w2 ⟨hb2, A2, k2, rfl, hr2⟩; have hr3 := (hr1.below hb2).more hb2.size; have c5 := ref_Bytes A1 A2 n n k1 k2 T T true w2 hr3 hr2 (by unfold maxLen; omega) (by simp [Hid]); clear hr1 hr2 hr3)
      | (go_at_call 20; refine c5.mono ?_; clear c5; rintro e w3 ⟨rfl, m3, rfl⟩))
    go_ret
    exact ⟨rfl, below_drewN (hb1.trans (hb2.mono hb1.size)) _⟩
  · have c3 : Calls Try.prog 21 #[.slice A n c, .int .i64 (a : Int)] w (fun e w' => Below w.heap.size w w' ∧ e = .returned (.tuple #[.slice none 0 0, .int .i64 5])) := by
      refine c1.mono ?_
      rintro e w' ⟨p, hp1, hp2, hp3, hb, hor⟩
      rcases hor with ⟨ht, _⟩ | ⟨_, rfl⟩
      · exact absurd ⟨p, by rw [hp1, HL.out], hp2, ht⟩ hT
      · exact ⟨hb, rfl⟩
    have c4 : ∀ w1 : World, Below w.heap.size w w1 → Calls Try.prog 22 #[.slice A n c, .int .i64 (a : Int)] w1 (fun e w' => Below w1.heap.size w1 w' ∧ ∃ A' c', e = .returned (.tuple #[.slice A' n c', .bool false])) := by
      intro w1 hb1
      refine (c2 w1 hb1).mono ?_
      rintro e w' ⟨q, hq1, hq2, hq3, hb, A', c', R, rfl, hr, hR⟩
      cases R with
      | false => exact ⟨hb, A', c', rfl⟩
      | true => exact absurd ⟨q, hq1, hq2, hR.1 rfl⟩ hT
    clear c1 c2 hT h hB
    go_enter Try.func7, Try.ntmps7
    go_wp2_with (first
      | (go_at_call 21; refine c3.mono ?_; clear c3; rintro e w1 ⟨hb1, rfl⟩; have c4 := c4 w1 hb1)
      | (go_at_call 22; refine c4.mono ?_; clear c4; rintro e w2 ⟨hb2, A2, k2, rfl⟩))
    go_ret
    exact ⟨rfl, hb1.trans (hb2.mono hb1.size)⟩
set_option maxHeartbeats 400000 in
theorem TurnBacks_walk (A : Option Addr) (n c : Nat) (last : List Nat) (z : Int) (w : World) (h : Reads w w.heap.size A n (vn .u8 last)) (hB : ∀ x ∈ last, x < 256) (hm : n * 1 ≤ reachBytes) (hzr : (Lit.int .i64 z).wf = true) :
    Calls Try.prog 7 #[.slice A n c, .int .i64 z] w (LawTrue w) := by
  clear hzr
  by_cases hn : 64 < n
  · have hz : (64 : Int) < (n : Int) := by omega
    have c1 := back_far A n c z w hn
    clear h hB hm
    go_enter Try.func7, Try.ntmps7
    go_wp2_with (go_at_call 21; refine c1.mono ?_; clear c1; rintro e w1 ⟨rfl, hb1⟩)
    go_ret
    exact ⟨rfl, hb1⟩
  · have hz : ¬ (64 : Int) < (n : Int) := by omega
    rcases Nat.eq_zero_or_pos n with h0 | h0
    · subst h0
      have c1 := back_nil A c z w
      by_cases hz0 : z = 0
      · have c2 := fun w1 => unt_nil A c z true w1 (decide_eq_true hz0)
        rw [if_pos hz0] at c1
        have c3 := fun w1 => ref_Bytes none none 0 0 0 0 [] [] true w1 (B := 0) (B' := 0) ⟨rfl, fun h => absurd h (by omega)⟩ ⟨rfl, fun h => absurd h (by omega)⟩ (by unfold maxLen; omega) (by simp [Hid])
        clear h hB hm hz0
        go_enter Try.func7, Try.ntmps7
        go_wp2_with (first
          | (go_at_call 21; refine c1.mono ?_; clear c1; rintro e w1 ⟨rfl, hb1⟩; have c2 := c2 w1; have c3 := c3 w1)
          | (go_at_call 22; refine c2.mono ?_; clear c2; rintro e w2 ⟨rfl, rfl⟩)
          | (go_at_call 20; refine c3.mono ?_; clear c3; rintro e w3 ⟨rfl, m3, rfl⟩))
        go_ret
        exact ⟨rfl, below_drewN hb1 _⟩
      · have c2 := fun w1 => unt_nil A c z false w1 (decide_eq_false hz0)
        rw [if_neg hz0] at c1
        clear h hB hm hz0
        go_enter Try.func7, Try.ntmps7
        go_wp2_with (first
          | (go_at_call 21; refine c1.mono ?_; clear c1; rintro e w1 ⟨rfl, hb1⟩; have c2 := c2 w1)
          | (go_at_call 22; refine c2.mono ?_; clear c2; rintro e w2 ⟨rfl, rfl⟩))
        go_ret
        exact ⟨rfl, hb1⟩
    · by_cases hin : 0 ≤ z ∧ z < (n : Int)
      · obtain ⟨a, rfl⟩ : ∃ a : Nat, z = (a : Int) := ⟨z.toNat, by omega⟩
        exact turnBacks_in A n c a last w h hB (by omega) (by omega)
      · have hout : z < 0 ∨ (n : Int) ≤ z := by omega
        have c1 := back_out A n c z w (by omega) h0 hout
        have c2 := fun w1 => unt_out A n c z w1 h0 hout
        clear h hB hm hin hout
        go_enter Try.func7, Try.ntmps7
        go_wp2_with (first
          | (go_at_call 21; refine c1.mono ?_; clear c1; rintro e w1 ⟨rfl, hb1⟩; have c2 := c2 w1)
          | (go_at_call 22; refine c2.mono ?_; clear c2; rintro e w2 ⟨rfl, rfl⟩))
        go_ret
        exact ⟨rfl, hb1⟩
end Go.Proofs.Ytdidahafbcddeaa

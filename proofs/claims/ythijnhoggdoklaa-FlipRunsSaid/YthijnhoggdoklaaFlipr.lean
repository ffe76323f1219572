import Derived.Test.YthijnhoggdoklaaFlip
set_option linter.unusedVariables false
namespace Go.Proofs.Ythijnhoggdoklaa
open Go.RowKit

theorem chk_parts {nb : Int} {w : World} {B : Nat} {A : Option Addr} {r : Nat} {l : List Nat} {x : Nat} (h : Reads w B A r (vn .u32 l)) (hz : chkErr nb l x nb = 0) : r ≤ 8 ∧ ∃ n : Nat, nb = n ∧ n ≤ 12 ∧ x < 2 ^ n := by
  obtain ⟨h1, h2⟩ := chkErr_ok hz
  obtain ⟨h3, n, rfl, hn, _⟩ := rowsErr_ok h1
  exact ⟨by rwa [h.nat_len] at h3, n, rfl, hn, by simpa using h2⟩

set_option maxHeartbeats 400000 in
theorem flip_Bad_err (nb : Int) (A : Option Addr) (r c : Nat) (l : List Nat) (x : Nat) (z : Int) (w : World) (h : Reads w w.heap.size A r (vn .u32 l)) (hw : ∀ x ∈ l, x < 4294967296) (hx : x < 4294967296) (hz : Hid (chkErr nb l x nb = z)) (h0 : (z != 0) = true) :
    Calls Try.prog 26 #[.int .i64 nb, .slice A r c, .int .u32 (x : Int)] w (Ret w (.tuple #[.int .i64 0, .int .i64 z])) := by
  have c1 := leader_Mark_err nb A r c l x z w h hw hx hz h0
  go_enter Try.func26, Try.ntmps26
  go_wp2_with (go_at_call 17; refine c1.mono ?_; rintro e w' ⟨rfl, rfl⟩)
  go_ret2
  exact ⟨rfl, rfl⟩
set_option maxHeartbeats 400000 in
theorem flip_Bad (nb : Int) (A : Option Addr) (r c : Nat) (l : List Nat) (x : Nat) (w : World) (h : Reads w w.heap.size A r (vn .u32 l)) (hw : ∀ x ∈ l, x < 4294967296) (hx : x < 4294967296) (hr : r ≤ 8) (hz : Hid (chkErr nb l x nb = 0)) :
    Calls Try.prog 26 #[.int .i64 nb, .slice A r c, .int .u32 (x : Int)] w (RetQ w (.tuple #[.int .i64 (badW l x r : Int), .int .i64 0])) := by
  have c1 := leader_Mark nb A r c l x w h hw hx hr hz
  have c2 := fun m => flip_bad A r c l x (w.drewN m) (h.drewN m) hr hw hx
  generalize badW l x r = q at *
  go_enter Try.func26, Try.ntmps26
  go_wp2_with (first | (go_at_call 17; refine c1.mono ?_; rintro e w' ⟨rfl, m1, rfl⟩) | (go_at_call 50; refine (c2 _).mono ?_; rintro e w' ⟨rfl, m2, rfl⟩))
  go_ret2
  exact ⟨rfl, m1 + m2, by first | rfl | rw [World.drewN_drewN]⟩
set_option maxHeartbeats 400000 in
theorem FlipBads_walk (nb : Int) (A : Option Addr) (n c : Nat) (l : List Nat) (x : Nat) (w : World) (_ : (Lit.int .i64 nb).wf = true) (h : Reads w w.heap.size A n (vn .u32 l)) (hw : ∀ x ∈ l, x < 4294967296) (_ : n * 4 ≤ reachBytes) (hx : x < 4294967296) :
    Calls Try.prog 7 #[.int .i64 nb, .slice A n c, .int .u32 (x : Int)] w (LawTrue w) := by
  by_cases h0 : chkErr nb l x nb = 0
  · have hn := chk_len h h0
    have c1 := flip_Bad nb A n c l x w h hw hx hn h0
    have c2 := fun (w' : World) (hr : Reads w' w'.heap.size A n (vn .u32 l)) => law_checked nb A n c l x nb 0 w' hr hw chk_nb hx h0
    have c3 := fun m => ref_Bad A n c l x (w.drewN m) (h.drewN m) hn hw hx
    clear h0
    generalize badW l x n = q at *
    go_enter Try.func7, Try.ntmps7
    go_wp2_with (first | (go_at_call 26; refine c1.mono ?_; rintro e w1 ⟨rfl, m1, rfl⟩) | (go_at_call 18; refine (c2 _ (h.drewN _)).mono ?_; rintro e w' ⟨rfl, rfl⟩) | (go_at_call 27; refine (c3 _).mono ?_; rintro e w' ⟨rfl, rfl⟩))
    go_ret
    exact .drewN _ _
  · have hz : (chkErr nb l x nb != 0) = true := by simpa using h0
    have c1 := flip_Bad_err nb A n c l x (chkErr nb l x nb) w h hw hx rfl hz
    have c2 := law_checked nb A n c l x nb (chkErr nb l x nb) w h hw chk_nb hx rfl
    clear h0
    generalize chkErr nb l x nb = z at *
    go_enter Try.func7, Try.ntmps7
    go_wp2_with (first | (go_at_call 26; refine c1.mono ?_; rintro e w1 ⟨rfl, rfl⟩) | (go_at_call 18; refine c2.mono ?_; rintro e w' ⟨rfl, rfl⟩))
    go_ret
    exact .same _

/-! ### one step -/
set_option maxHeartbeats 400000 in
theorem flip_Step_err (nb : Int) (A : Option Addr) (r c : Nat) (l : List Nat) (x : Nat) (z : Int) (w : World) (h : Reads w w.heap.size A r (vn .u32 l)) (hw : ∀ x ∈ l, x < 4294967296) (hx : x < 4294967296) (hz : Hid (chkErr nb l x nb = z)) (h0 : (z != 0) = true) :
    Calls Try.prog 32 #[.int .i64 nb, .slice A r c, .int .u32 (x : Int)] w (Ret w (.tuple #[.int .u32 0, .bool false, .int .i64 z])) := by
  have c1 := leader_Mark_err nb A r c l x z w h hw hx hz h0
  go_enter Try.func32, Try.ntmps32
  go_wp2_with (go_at_call 17; refine c1.mono ?_; rintro e w' ⟨rfl, rfl⟩)
  go_ret3
  exact ⟨rfl, rfl⟩
set_option maxHeartbeats 400000 in
theorem flip_Step (n : Nat) (A : Option Addr) (r c : Nat) (l : List Nat) (x : Nat) (w : World) (h : Reads w w.heap.size A r (vn .u32 l)) (hw : ∀ x ∈ l, x < 4294967296) (hr : r ≤ 8) (hn : n ≤ 12) (hx : x < 2 ^ n) (hz : Hid (chkErr n l x n = 0)) :
    Calls Try.prog 32 #[.int .i64 (n : Int), .slice A r c, .int .u32 (x : Int)] w (RetQ w (.tuple #[.int .u32 (stepW n l x : Int), .bool (stepB n l x), .int .i64 0])) := by
  have hp := pow_le12 hn
  have c1 := leader_Mark n A r c l x w h hw (by omega) hr hz
  have c2 := fun m => flip_step n A r c l x (w.drewN m) (h.drewN m) hr hn hw hx
  clear hx hp
  generalize stepW n l x = q at *
  generalize stepB n l x = b at *
  go_enter Try.func32, Try.ntmps32
  go_wp2_with (first | (go_at_call 17; refine c1.mono ?_; rintro e w' ⟨rfl, m1, rfl⟩) | (go_at_call 53; refine (c2 _).mono ?_; rintro e w' ⟨rfl, m2, rfl⟩))
  go_ret3
  exact ⟨rfl, m1 + m2, by first | rfl | rw [World.drewN_drewN]⟩
set_option maxHeartbeats 400000 in
theorem FlipSteps_walk (nb : Int) (A : Option Addr) (r c : Nat) (l : List Nat) (x : Nat) (w : World) (_ : (Lit.int .i64 nb).wf = true) (h : Reads w w.heap.size A r (vn .u32 l)) (hw : ∀ x ∈ l, x < 4294967296) (_ : r * 4 ≤ reachBytes) (hx : x < 4294967296) :
    Calls Try.prog 10 #[.int .i64 nb, .slice A r c, .int .u32 (x : Int)] w (LawTrue w) := by
  by_cases h0 : chkErr nb l x nb = 0
  · obtain ⟨hr, n, rfl, hn, hx2⟩ := chk_parts h h0
    have c1 := flip_Step n A r c l x w h hw hr hn hx2 h0
    have c2 := fun (w' : World) (hr : Reads w' w'.heap.size A r (vn .u32 l)) => law_checked n A r c l x n 0 w' hr hw chk_nb hx h0
    have c3 := fun m => ref_Flip n A r c l x (w.drewN m) (h.drewN m) hr hn hw hx2
    clear h0 hx2
    generalize stepW n l x = q at *
    generalize stepB n l x = b at *
    cases b
    all_goals
      go_enter Try.func10, Try.ntmps10
      go_wp2_with (first | (go_at_call 32; refine c1.mono ?_; rintro e w1 ⟨rfl, m1, rfl⟩) | (go_at_call 18; refine (c2 _ (h.drewN _)).mono ?_; rintro e w' ⟨rfl, rfl⟩) | (go_at_call 33; refine (c3 _).mono ?_; rintro e w' ⟨rfl, rfl⟩))
      go_ret
      exact .drewN _ _
  · have hz : (chkErr nb l x nb != 0) = true := by simpa using h0
    have c1 := flip_Step_err nb A r c l x (chkErr nb l x nb) w h hw hx rfl hz
    have c2 := law_checked nb A r c l x nb (chkErr nb l x nb) w h hw chk_nb hx rfl
    clear h0
    generalize chkErr nb l x nb = z at *
    go_enter Try.func10, Try.ntmps10
    go_wp2_with (first | (go_at_call 32; refine c1.mono ?_; rintro e w1 ⟨rfl, rfl⟩) | (go_at_call 18; refine c2.mono ?_; rintro e w' ⟨rfl, rfl⟩))
    go_ret
    exact .same _

/-! ### as long as it goes -/
def runF (n : Nat) (l : List Nat) : Nat → Nat → Nat × Nat
  | 0, x => (x, 0)
  | f + 1, x => if stepB n l x then ((runF n l f (stepW n l x)).1, (runF n l f (stepW n l x)).2 + 1) else (x, 0)
/-- the word at a round's head, how many steps there were, and what will come of it -/
def RunAt (n : Nat) (l : List Nat) (X K y k : Nat) : Prop := y < 2 ^ n ∧ k + bad0 l y ≤ 8 ∧ ∃ f, bad0 l y < f ∧ (runF n l f y).1 = X ∧ k + (runF n l f y).2 = K
theorem runAt_start {n : Nat} {l : List Nat} {x : Nat} (hx : x < 2 ^ n) (hl : l.length ≤ 8) : RunAt n l (runF n l 9 x).1 (runF n l 9 x).2 x 0 := by
  have := badW_le l x l.length
  exact ⟨hx, by unfold bad0; omega, 9, by unfold bad0; omega, rfl, by omega⟩
theorem runAt_next {n : Nat} {l : List Nat} {X K y k : Nat} (h : RunAt n l X K y k) (hs : stepB n l y = true) : RunAt n l X K (stepW n l y) (k + 1) ∧ bad0 l (stepW n l y) < bad0 l y ∧ k ≤ 8 := by
  obtain ⟨h1, h2, f, h3, h4, h5⟩ := h
  have hl := step_less hs
  match f with
  | 0 => omega
  | f + 1 =>
    rw [runF, if_pos hs] at h4 h5
    exact ⟨⟨stepW_lt h1, by omega, f, by omega, h4, by simp only at h5; omega⟩, hl, by omega⟩
theorem runAt_end {n : Nat} {l : List Nat} {X K y k : Nat} (h : RunAt n l X K y k) (hs : stepB n l y = false) : y = X ∧ k = K := by
  obtain ⟨h1, h2, f, h3, h4, h5⟩ := h
  match f with
  | 0 => omega
  | f + 1 =>
    rw [runF, if_neg (by simp [hs])] at h4 h5
    exact ⟨h4, by simpa using h5⟩
set_option maxHeartbeats 400000 in
theorem flip_Run_err (nb : Int) (A : Option Addr) (r c : Nat) (l : List Nat) (x : Nat) (z : Int) (w : World) (h : Reads w w.heap.size A r (vn .u32 l)) (hw : ∀ x ∈ l, x < 4294967296) (hx : x < 4294967296) (hz : Hid (chkErr nb l x nb = z)) (h0 : (z != 0) = true) :
    Calls Try.prog 34 #[.int .i64 nb, .slice A r c, .int .u32 (x : Int)] w (Ret w (.tuple #[.int .u32 0, .int .i64 0, .int .i64 z])) := by
  have c1 := leader_Mark_err nb A r c l x z w h hw hx hz h0
  go_enter Try.func34, Try.ntmps34
  go_wp2_with (go_at_call 17; refine c1.mono ?_; rintro e w' ⟨rfl, rfl⟩)
  go_ret3
  exact ⟨rfl, rfl⟩
theorem ret_iii {k k' k'' : IntKind} {a b a' b' c : Int} (h : a = b) (h2 : a' = b') : Ending.returned (.tuple #[.int k a, .int k' a', .int k'' c]) = .returned (.tuple #[.int k b, .int k' b', .int k'' c]) := by rw [h, h2]
set_option maxHeartbeats 600000 in
theorem flip_Run (n : Nat) (A : Option Addr) (r c : Nat) (l : List Nat) (x X K : Nat) (w : World) (h : Reads w w.heap.size A r (vn .u32 l)) (hw : ∀ x ∈ l, x < 4294967296) (hr : r ≤ 8) (hn : n ≤ 12) (hx : x < 2 ^ n) (hz : Hid (chkErr n l x n = 0)) (hR : Hid (RunAt n l X K x 0)) :
    Calls Try.prog 34 #[.int .i64 (n : Int), .slice A r c, .int .u32 (x : Int)] w (RetQ w (.tuple #[.int .u32 (X : Int), .int .i64 (K : Int), .int .i64 0])) := by
  have hp := pow_le12 hn
  have c1 := leader_Mark n A r c l x w h hw (by omega) hr hz
  have c2 := fun (y m : Nat) (hy : y < 2 ^ n) => flip_step n A r c l y (w.drewN m) (h.drewN m) hr hn hw hy
  have HX := Lib.hid hx
  clear hx hp
  go_enter Try.func34, Try.ntmps34
  go_wp2_with (first | (go_at_call 17; refine c1.mono ?_; rintro e w' ⟨rfl, m1, rfl⟩) | (go_at_call 53; refine (c2 x _ HX.out).mono ?_; rintro e w' ⟨rfl, m2, rfl⟩))
  go_loopw [2, 11, 12, 13] (fun yv kv sv bv wr => ∃ y k m : Nat, yv = .int .u32 y ∧ kv = .int .i64 k ∧ sv = .int .u32 (stepW n l y : Int) ∧ bv = .bool (stepB n l y) ∧ Hid (RunAt n l X K y k) ∧ wr = w.drewN m) (fun yv _ _ _ _ => bad0 l (intOf yv).toNat)
  case atStart => exact ⟨x, 0, m1 + m2, rfl, rfl, rfl, rfl, hR, by first | rfl | rw [World.drewN_drewN]⟩
  case round =>
    obtain ⟨y, k, m, rfl, rfl, rfl, rfl, hra, rfl⟩ := hrel
    cases hb : stepB n l y
    · obtain ⟨e1, e2⟩ := runAt_end hra.out hb
      have E1 := Lib.hid e1
      have E2 := Lib.hid e2
      clear e1 e2 hb
      go_wp2
      go_ret3
      exact ⟨ret_iii (by rw [E1.out]) (by rw [E2.out]), m, rfl⟩
    · obtain ⟨hn2, hl, hk8⟩ := runAt_next hra.out hb
      have cs := c2 (stepW n l y) m hn2.1
      have HN := Lib.hid hn2
      have HL := Lib.hid hl
      clear hn2 hb hl hra
      obtain ⟨y2, hy2⟩ : ∃ y2, stepW n l y = y2 := ⟨_, rfl⟩
      rw [hy2] at cs HN HL ⊢
      clear hy2
      go_wp2_with (go_at_call 53; refine cs.mono ?_; rintro e w' ⟨rfl, m3, rfl⟩)
      go_roundw
      case rel => exact ⟨y2, k + 1, m + m3, rfl, by go_num, rfl, rfl, HN, by first | rfl | rw [World.drewN_drewN]⟩
      case measure => simp only [intOf, Int.toNat_natCast]; exact HL.out
set_option maxHeartbeats 600000 in
theorem FlipRuns_walk (nb : Int) (A : Option Addr) (r c : Nat) (l : List Nat) (x : Nat) (w : World) (_ : (Lit.int .i64 nb).wf = true) (h : Reads w w.heap.size A r (vn .u32 l)) (hw : ∀ x ∈ l, x < 4294967296) (_ : r * 4 ≤ reachBytes) (hx : x < 4294967296) :
    Calls Try.prog 11 #[.int .i64 nb, .slice A r c, .int .u32 (x : Int)] w (LawTrue w) := by
  by_cases h0 : chkErr nb l x nb = 0
  · obtain ⟨hr, n, rfl, hn, hx2⟩ := chk_parts h h0
    have hR : Hid (RunAt n l (runF n l 9 x).1 (runF n l 9 x).2 x 0) := runAt_start hx2 (by rw [h.nat_len]; exact hr)
    generalize (runF n l 9 x).1 = X at *
    generalize (runF n l 9 x).2 = K at *
    have c1 := flip_Run n A r c l x X K w h hw hr hn hx2 h0 hR
    have c2 := fun (w' : World) (hr : Reads w' w'.heap.size A r (vn .u32 l)) => law_checked n A r c l x n 0 w' hr hw chk_nb hx h0
    have c3 := fun (y m : Nat) (hy : y < 2 ^ n) => ref_Flip n A r c l y (w.drewN m) (h.drewN m) hr hn hw hy
    clear h0 hx2
    go_enter Try.func11, Try.ntmps11
    go_wp2_with (first | (go_at_call 34; refine c1.mono ?_; rintro e w1 ⟨rfl, m1, rfl⟩) | (go_at_call 18; refine (c2 _ (h.drewN _)).mono ?_; rintro e w' ⟨rfl, rfl⟩))
    go_loop [2, 11] (fun yv kv => ∃ y k : Nat, yv = .int .u32 y ∧ kv = .int .i64 k ∧ Hid (RunAt n l X K y k)) (fun yv _ => bad0 l (intOf yv).toNat)
    case atStart => exact ⟨x, 0, rfl, rfl, hR⟩
    case round =>
      obtain ⟨y, k, rfl, rfl, hra⟩ := hrel
      have cs := c3 y m1 hra.out.1
      cases hb : stepB n l y
      · obtain ⟨e1, e2⟩ := runAt_end hra.out hb
        rw [hb] at cs
        clear hb
        subst e1
        subst e2
        go_wp2_with (go_at_call 33; refine cs.mono ?_; rintro e w' ⟨rfl, rfl⟩)
        go_ret
        exact .drewN _ _
      · obtain ⟨hn2, hl, hk8⟩ := runAt_next hra.out hb
        rw [hb] at cs
        have HN := Lib.hid hn2
        have HL := Lib.hid hl
        clear hn2 hb hl hra
        obtain ⟨y2, hy2⟩ : ∃ y2, stepW n l y = y2 := ⟨_, rfl⟩
        rw [hy2] at cs HN HL
        clear hy2
        go_wp2_with (go_at_call 33; refine cs.mono ?_; rintro e w' ⟨rfl, rfl⟩)
        go_round
        case rel => exact ⟨y2, k + 1, rfl, by go_num, HN⟩
        case measure => simp only [intOf, Int.toNat_natCast]; exact HL.out
  · have hz : (chkErr nb l x nb != 0) = true := by simpa using h0
    have c1 := flip_Run_err nb A r c l x (chkErr nb l x nb) w h hw hx rfl hz
    have c2 := law_checked nb A r c l x nb (chkErr nb l x nb) w h hw chk_nb hx rfl
    clear h0
    generalize chkErr nb l x nb = z at *
    go_enter Try.func11, Try.ntmps11
    go_wp2_with (first | (go_at_call 34; refine c1.mono ?_; rintro e w1 ⟨rfl, rfl⟩) | (go_at_call 18; refine c2.mono ?_; rintro e w' ⟨rfl, rfl⟩))
    go_ret
    exact .same _
end Go.Proofs.Ythijnhoggdoklaa

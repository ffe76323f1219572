import Derived.Test.YtmepiiheidmbgaaRanks
set_option linter.unusedVariables false
namespace Go.Proofs.Ytmepiiheidmbgaa
open Go.RowKit

set_option maxRecDepth 100000 in
set_option maxHeartbeats 800000 in
theorem RankLists_none (n : Nat) (i : Int) (w : World) (hn : n ≤ 8) (hi : i < 0 ∨ (fct n : Int) ≤ i) :
    Calls Try.prog 11 #[.int .i64 (n : Int), .int .i64 i] w (LawTrue w) := by
  have c1 := rank_List_none n i w hn hi
  have c3 := fun (W : World) => ref_First n W hn
  have j0 : ¬ (n : Int) < 0 := by omega
  have j1 : ¬ (8 : Int) < (n : Int) := by omega
  by_cases h0 : i < 0
  · have j2 : ¬ (0 : Int) ≤ i := by omega
    have j4 : decide ((0 : Int) ≤ i) = false := by simpa using h0
    have j3 : ¬ (0 : Int) < i := by omega
    clear hi
    go_enter Try.func11, Try.ntmps11
    go_wp2_with (first
      | (go_at_call 38; refine c1.mono ?_; clear c1; rintro e w1 ⟨rfl, rfl⟩)
      | (go_at_call 36; refine (c3 _).mono ?_; clear c3; rintro e w2 ⟨A2, n2, k2, rfl, ho2, hb2⟩))
    clear ho2
    refine wp_loop_rounds 1 ?_
    rw [rounds_succ]
    go_wp2
    all_goals (go_ret; exact ⟨rfl, hb2⟩)
  · have h1 : (fct n : Int) ≤ i := by omega
    have hfp := fct_pos n
    have hfl := fct_le hn
    have HU0 : Hid (unL n (List.range n) 0 = List.range n) := unL_zero n _ List.length_range
    have HNX := Lib.hid (fun r (hr : r < fct n) => un_next (n := n) hr)
    have HNM : Hid (∀ r, (unL n (List.range n) r).length = n) := fun r => unL_len n _ r
    obtain ⟨F, hF⟩ : ∃ F, fct n = F := ⟨_, rfl⟩
    rw [hF] at HNX hfp h1 hfl
    have j2 : (0 : Int) ≤ i := by omega
    clear hF hi
    go_enter Try.func11, Try.ntmps11
    go_wp2_with (first
      | (go_at_call 38; refine c1.mono ?_; clear c1; rintro e w1 ⟨rfl, rfl⟩)
      | (go_at_call 36; refine (c3 _).mono ?_; clear c3; rintro e w2 ⟨A2, n2, k2, rfl, ho2, hb2⟩; obtain rfl : n2 = n := (by have := ho2.len; simpa using this.symm)))
    rw [← HU0.out] at ho2
    go_loopw [7, 8, 9] (fun mv bv kv wr => ∃ (r : Nat), r ≤ F ∧ kv = .int .i64 r ∧ Below w.heap.size w wr ∧ ((∃ (A' : Option Addr) (k' : Nat), bv = .bool true ∧ r < F ∧ mv = .slice A' n2 k' ∧ Own wr w.heap.size 3 (.slice A' n2 k') (vn .i64 (unL n2 (List.range n2) r))) ∨ (bv = .bool false ∧ mv = .slice none 0 0 ∧ r = F))) (fun _ _ kv _ => F - (intOf kv).toNat)
    case atStart => exact ⟨0, by omega, rfl, hb2, .inl ⟨A2, k2, rfl, hfp, rfl, ho2⟩⟩
    case round =>
      clear ho2 hb2
      obtain ⟨r, hr, rfl, hbel, ⟨A', k', rfl, hrf, rfl, hown⟩ | ⟨rfl, rfl, rfl⟩⟩ := hrel
      · have j5 : (r : Int) < i := by omega
        rcases HNX.out r hrf with ⟨h1', hds⟩ | ⟨h1', a, b, h2, h3⟩
        · have cn := fun (W : World) (h : Reads W W.heap.size A' n2 (vn .i64 (unL n2 (List.range n2) r))) => ref_Next_none A' n2 k' _ W h hn hds
          clear hds
          go_wp2_with (go_at_call 37; refine (cn _ hown.reads).mono ?_; clear cn; rintro e w4 ⟨hb4, rfl⟩)
          go_roundw
          case rel => exact ⟨r + 1, by omega, by go_num, hbel.trans (hb4.mono hbel.size), .inr ⟨rfl, rfl, h1'⟩⟩
          case measure => simp [intOf]; omega
        · have cn := fun (W : World) (h : Reads W W.heap.size A' n2 (vn .i64 (unL n2 (List.range n2) r))) => ref_Next A' n2 k' a b (unL n2 (List.range n2) r) W h hn h2
          rw [h3] at cn
          clear h2 h3
          go_wp2_with (go_at_call 37; refine (cn _ hown.reads).mono ?_; clear cn; rintro e w4 ⟨hb4, A4, k4, rfl, ho4⟩)
          go_roundw
          case rel => exact ⟨r + 1, by omega, by go_num, hbel.trans (hb4.mono hbel.size), .inl ⟨A4, k4, rfl, h1', rfl, ho4.low hbel.size⟩⟩
          case measure => simp [intOf]; omega
      · go_wp2
        all_goals (go_ret; exact ⟨rfl, hbel⟩)
set_option maxRecDepth 100000 in
set_option maxHeartbeats 800000 in
theorem RankLists_some (n i : Nat) (w : World) (hn : n ≤ 8) (hi : i < fct n) :
    Calls Try.prog 11 #[.int .i64 (n : Int), .int .i64 (i : Int)] w (LawTrue w) := by
  have c1 := rank_List n i w hn hi
  have c3 := fun (W : World) => ref_First n W hn
  have j0 : ¬ (n : Int) < 0 := by omega
  have j1 : ¬ (8 : Int) < (n : Int) := by omega
  have j2 : (0 : Int) ≤ (i : Int) := by omega
  have HU0 : Hid (unL n (List.range n) 0 = List.range n) := unL_zero n _ List.length_range
  have HNX := Lib.hid (fun r (hr : r < fct n) => un_next (n := n) hr)
  have hmx : n ≤ maxLen := by unfold maxLen; omega
  have hfl := fct_le hn
  obtain ⟨F, hF⟩ : ∃ F, fct n = F := ⟨_, rfl⟩
  rw [hF] at HNX hi hfl
  clear hF
  go_enter Try.func11, Try.ntmps11
  go_wp2_with (first
    | (go_at_call 38; refine c1.mono ?_; clear c1; rintro e w1 ⟨hb1, A1, k1, rfl, ho1⟩)
    | (go_at_call 36; refine (c3 _).mono ?_; clear c3; rintro e w2 ⟨A2, n2, k2, rfl, ho2, hb2⟩; obtain rfl : n2 = n := (by have := ho2.len; simpa using this.symm)))
  rw [← HU0.out] at ho2
  have hb02 := hb1.trans (hb2.mono hb1.size)
  have ho1' := ho1.reads.below hb2
  have ho2' := ho2.low hb1.size
  have hs1 : w1.heap.size ≤ w2.heap.size := hb2.size
  clear ho1 ho2 hb1 hb2
  go_loopw [7, 8, 9] (fun mv bv kv wr => ∃ (r : Nat) (A' : Option Addr) (k' : Nat), bv = .bool true ∧ r ≤ i ∧ kv = .int .i64 r ∧ mv = .slice A' n2 k' ∧ Below w.heap.size w wr ∧ Reads wr wr.heap.size A1 n2 (vn .i64 (unL n2 (List.range n2) i)) ∧ Own wr w.heap.size 3 (.slice A' n2 k') (vn .i64 (unL n2 (List.range n2) r))) (fun _ _ kv _ => i - (intOf kv).toNat)
  case atStart => exact ⟨0, A2, k2, rfl, by omega, rfl, rfl, hb02, ho1'.more hs1, ho2'⟩
  case round =>
    clear ho1' ho2' hb02
    obtain ⟨r, A', k', rfl, hr, rfl, rfl, hbel, hrd, hown⟩ := hrel
    by_cases hlt : r < i
    · have hrf : r < F := by omega
      rcases HNX.out r hrf with ⟨h1', hds⟩ | ⟨h1', a, b, h2, h3⟩
      · omega
      · have cn := fun (W : World) (h : Reads W W.heap.size A' n2 (vn .i64 (unL n2 (List.range n2) r))) => ref_Next A' n2 k' a b (unL n2 (List.range n2) r) W h hn h2
        rw [h3] at cn
        clear h2 h3
        go_wp2_with (go_at_call 37; refine (cn _ hown.reads).mono ?_; clear cn; rintro e w4 ⟨hb4, A4, k4, rfl, ho4⟩)
        go_roundw
        case rel => exact ⟨r + 1, A4, k4, rfl, by omega, by go_num, rfl, hbel.trans (hb4.mono hbel.size), (hrd.below hb4).more hb4.size, ho4.low hbel.size⟩
        case measure => simp [intOf]; omega
    · obtain rfl : r = i := by omega
      have ci := ref_Ints A1 A' n2 n2 k1 k' _ _ true wr (by rw [← vn_viR]; exact hrd) (by rw [← vn_viR]; exact hown.reads) hmx (by unfold Hid; exact decide_eq_true rfl)
      go_wp2_with (go_at_call 32; refine ci.mono ?_; clear ci; rintro e w3 ⟨rfl, t3, rfl⟩)
      go_ret
      exact ⟨rfl, below_drewN hbel _⟩
set_option maxHeartbeats 800000 in
theorem RankLists_walk (n i : Int) (w : World) (_ : (Lit.int .i64 n).wf = true) (_ : (Lit.int .i64 i).wf = true) :
    Calls Try.prog 11 #[.int .i64 n, .int .i64 i] w (LawTrue w) := by
  by_cases h : n < 0 ∨ 8 < n
  · have c1 := rank_List_big n i w h
    by_cases h0 : n < 0
    · go_enter Try.func11, Try.ntmps11
      go_wp2_with (go_at_call 38; refine c1.mono ?_; clear c1; rintro e w1 ⟨rfl, rfl⟩)
      go_ret
      exact .same _
    · have h1 : 8 < n := by omega
      go_enter Try.func11, Try.ntmps11
      go_wp2_with (go_at_call 38; refine c1.mono ?_; clear c1; rintro e w1 ⟨rfl, rfl⟩)
      go_ret
      exact .same _
  · obtain ⟨m, rfl⟩ : ∃ m : Nat, n = m := ⟨n.toNat, by omega⟩
    by_cases hi : i < 0 ∨ (fct m : Int) ≤ i
    · exact RankLists_none m i w (by omega) hi
    · obtain ⟨k, rfl⟩ : ∃ k : Nat, i = k := ⟨i.toNat, by omega⟩
      exact RankLists_some m k w (by omega) (by omega)
end Go.Proofs.Ytmepiiheidmbgaa

import Derived.Test.YtdlnbechpbielaaMullp
set_option linter.unusedVariables false
namespace Go.Proofs.Ytdlnbechpbielaa
open Go.RowKit Go.Shelf Go.Sort

theorem in_test2 (x p : Nat) (hx : x < 1000) (hp : p < 1000) : (bits .and .i64 (p : Int) (x : Int) == (p : Int)) = inU p x := by
  rw [i64_and_nat p x (by omega) (by omega), Nat.and_comm]
  unfold inU
  rw [Bool.eq_iff_iff]; simp; omega
theorem mulL_snoc (data : List Bool) (ps : List Nat) (M k : Nat) : mulL data ps (M + 1) k = mulL data ps M k ++ [oddK data ps M k] := by
  unfold mulL; rw [List.range_succ, List.map_append]; rfl
set_option maxHeartbeats 1600000 in
theorem ref_Muller (r m M : Nat) (A : Option Addr) (n c : Nat) (data : List Bool) (ps : List Nat) (w : World) (h : Reads w w.heap.size A n (vb data)) (hm : m ≤ 4) (hr : r ≤ m) (hps : Hid (prodU r (2 ^ m) = ps)) (hM : Hid (2 ^ m = M)) (hn : Hid (ps.length = n)) :
    Calls Try.prog 21 #[.int .i64 (r : Int), .int .i64 (m : Int), .slice A n c] w (RetS w 4 (vb (mulL data ps M n))) := by
  have H := Lib.hid h.bool_len
  have hn80 : n ≤ 80 := by rw [← hn.out, ← hps.out]; exact prodU_len r m hm hr
  have cp := fun W => ref_Products r m W hm hr
  rw [hps.out] at cp
  have hM2 : M ≤ 16 := by rw [← hM.out]; exact Nat.pow_le_pow_right (n := 2) (by omega) hm
  have hMi : (2 : Int) ^ m = (M : Int) := by rw [← hM.out]; exact (Int.natCast_pow 2 m).symm
  have HPL : Hid (∀ p ∈ ps, p < 16) := fun p hp => by
    rw [← hps.out] at hp
    have := prodU_lt r (2 ^ m) p hp
    rw [hM.out] at this; omega
  go_enter Try.func21, Try.ntmps21
  go_wp2
  go_loopw [7, 8] (fun v xv wr => ∃ x : Nat, x ≤ M ∧ xv = .int .i64 x ∧ Own wr w.heap.size 4 v (vb (mulL data ps x n)) ∧ Below w.heap.size w wr) (fun _ xv _ => M - (intOf xv).toNat)
  case atStart => exact ⟨0, by omega, rfl, (by unfold mulL; simpa using Own.nil _ _ _), Below.refl _ _⟩
  case round =>
    obtain ⟨x, hx, rfl, hown, hbel⟩ := hrel
    have hvl : (vb (mulL data ps x n)).length ≤ 16 := by rw [List.length_map, mulL_len]; omega
    by_cases hlt : x < M
    · have cp := cp wr
      have HN : Hid (vb (mulL data ps x n) ++ [Value.bool (oddK data ps x n)] = vb (mulL data ps (x + 1) n)) := by unfold Hid; rw [mulL_snoc]; simp [vb]
      have x1 : (x : Int) < (M : Int) := by omega
      go_wp2_with (go_at_call 18; refine cp.mono ?_; clear cp; rintro e w1 ⟨A1, n1, c1, rfl, ho1, hb1⟩; obtain rfl : n1 = n := (by have := ho1.len; rw [List.length_map, hn.out] at this; exact this.symm))
      have hown1 := hown.below hb1 (Nat.le_refl _)
      have hbel1 := hbel.trans (hb1.mono hbel.size)
      go_loop [9, 23] (fun o iv => ∃ k : Nat, k ≤ n1 ∧ iv = .int .i64 k ∧ o = .bool (oddK data ps x k)) (fun _ iv => n1 - (intOf iv).toNat)
      case atStart => exact ⟨0, by omega, rfl, rfl⟩
      case round =>
        obtain ⟨k, hk, rfl, rfl⟩ := hrel
        by_cases hkn : k < n1
        · obtain ⟨ad, b, rfl, hb, hxb, hc0⟩ := h.bool_at hkn
          have hc : w1.cell? (ad.add k) = some (.bool b) := (hbel1.cell (by rw [block_of_add]; exact hb)).trans hc0
          obtain ⟨ad1, p, rfl, _, hp, hcp⟩ := ho1.reads.nat_at hkn
          have hp16 := HPL.out p (mem_at hp)
          have HO : Hid (oddK data ps x (k + 1) = (oddK data ps x k != (b && inU p x))) := by
            unfold Hid; rw [oddK, List.getD_eq_getElem?_getD, hxb, List.getD_eq_getElem?_getD, hp]; rfl
          have ht := in_test2 x p (by omega) (by omega)
          clear hxb hp hc0
          generalize oddK data ps x k = o at *
          generalize inU p x = q at *
          cases b
          · go_wp2
            go_round
            case rel => exact ⟨k + 1, by omega, by go_num, by rw [HO.out]; cases o <;> rfl⟩
            case measure => simp [intOf]; omega
          · cases q
            · go_wp2
              go_round
              case rel => exact ⟨k + 1, by omega, by go_num, by rw [HO.out]; cases o <;> rfl⟩
              case measure => simp [intOf]; omega
            · go_wp2
              go_round
              case rel => exact ⟨k + 1, by omega, by go_num, by rw [HO.out]; cases o <;> rfl⟩
              case measure => simp [intOf]; omega
        · obtain rfl : k = n1 := by omega
          generalize oddK data ps x k = o at *
          go_wp2_with (at_builtin; refine app1 el_clone_bools rfl _ _ rfl rfl hown1 _ _ rfl rfl (by unfold maxLen; omega) (by omega) hbel1.size ?_; intro v2 w2 ho2 hb2 _ _)
          rw [HN.out] at ho2
          go_roundw
          case rel => exact ⟨x + 1, by omega, by go_num, ho2, hbel1.trans hb2⟩
          case measure => simp [intOf]; omega
    · obtain rfl : x = M := by omega
      have x1 : ¬ (x : Int) < (x : Int) := by omega
      obtain ⟨A2, c2, e⟩ := hown.form
      generalize (vb (mulL data ps x n)).length = N at e
      subst e
      go_wp2
      go_ret
      exact ⟨A2, N, c2, rfl, hown, hbel⟩
theorem mul_Put_bad (r m : Int) (A : Option Addr) (n c : Nat) (w : World) (h : okM r m = false) : Calls Try.prog 19 #[.int .i64 r, .int .i64 m, .slice A n c] w (Ret w (.tuple #[.slice none 0 0, .int .i64 4])) := by
  have c := mul_wrong r m w
  rw [h] at c
  go_enter Try.func19, Try.ntmps19
  go_wp2_with (go_at_call 41; refine c.mono ?_; clear c; rintro e w' ⟨rfl, rfl⟩)
  go_ret2
  exact ⟨rfl, rfl⟩
theorem mul_Put_len (r m N : Nat) (A : Option Addr) (n c : Nat) (w : World) (hm : m ≤ 4) (hr : r ≤ m) (hN : Hid ((prodU r (2 ^ m)).length = N)) (hne : n ≠ N) (hn : n ≤ maxLen) (hN80 : N ≤ 80) : Calls Try.prog 19 #[.int .i64 (r : Int), .int .i64 (m : Int), .slice A n c] w (RetB w (.tuple #[.slice none 0 0, .int .i64 3])) := by
  have c := mul_wrong r m w
  have h : okM r m = true := by simp [okM]; omega
  rw [h] at c
  have c2 := mul_products r m w hm hr
  have hne2 : ¬ (n : Int) = (N : Int) := by omega
  have hne3 : ((n : Int) != (N : Int)) = true := by simp; omega
  clear h hne
  go_enter Try.func19, Try.ntmps19
  go_wp2_with (first
    | (go_at_call 41; refine c.mono ?_; clear c; rintro e w' ⟨rfl, rfl⟩)
    | (go_at_call 42; refine c2.mono ?_; clear c2; rintro e w1 ⟨A1, n1, c1, rfl, ho1, hb1⟩; obtain rfl : n1 = N := (by have := ho1.len; rw [List.length_map, hN.out] at this; exact this.symm)))
  go_ret2
  exact ⟨rfl, hb1⟩
set_option maxHeartbeats 800000 in
theorem MullerPuts_walk (r m : Int) (A : Option Addr) (n c : Nat) (data : List Bool) (w : World) (_ : (Lit.int .i64 r).wf = true) (_ : (Lit.int .i64 m).wf = true) (h : Reads w w.heap.size A n (vb data)) (hs : n * 1 ≤ reachBytes) :
    Calls Try.prog 5 #[.int .i64 r, .int .i64 m, .slice A n c] w (LawTrue w) := by
  have hmx : n ≤ maxLen := by unfold reachBytes at hs; unfold maxLen; omega
  cases hok : okM r m with
  | false =>
    have c1 := mul_Put_bad r m A n c w hok
    have c2 := law_check r m w
    rw [hok] at c2
    clear hok h
    go_enter Try.func5, Try.ntmps5
    go_wp2_with (first
      | (go_at_call 19; refine c1.mono ?_; clear c1; rintro e w' ⟨rfl, rfl⟩)
      | (go_at_call 17; refine c2.mono ?_; clear c2; rintro e w' ⟨rfl, rfl⟩))
    go_ret
    exact .same _
  | true =>
    obtain ⟨a, b, rfl, rfl, hb4, hab⟩ := okM_nat hok
    obtain ⟨N, hN⟩ : ∃ N, (prodU a (2 ^ b)).length = N := ⟨_, rfl⟩
    have hN80 : N ≤ 80 := by rw [← hN]; exact prodU_len a b hb4 hab
    have c2 := fun W => law_check a b W
    rw [hok] at c2
    have c3 := fun W => ref_Products a b W hb4 hab
    have HN := Lib.hid hN
    by_cases hne : n = N
    · subst hne
      have c1 := mul_Put a b (2 ^ b) A n c data (prodU a (2 ^ b)) w h hb4 hab rfl rfl hN
      have c4 := fun (W : World) (hb : Below w.heap.size w W) => ref_Muller a b (2 ^ b) A n c data (prodU a (2 ^ b)) W ((h.below hb).more hb.size) hb4 hab rfl rfl hN
      have hML : Hid ((mulL data (prodU a (2 ^ b)) (2 ^ b) n).length ≤ 16) := by unfold Hid; rw [mulL_len]; exact Nat.pow_le_pow_right (n := 2) (by omega) hb4
      have c5 := fun (A1 A2 : Option Addr) (n1 n2 k1 k2 : Nat) (w2 : World) (g1 : Reads w2 w2.heap.size A1 n1 (vb (mulL data (prodU a (2 ^ b)) (2 ^ b) n))) (g2 : Reads w2 w2.heap.size A2 n2 (vb (mulL data (prodU a (2 ^ b)) (2 ^ b) n))) => ref_Bools A1 A2 n1 n2 k1 k2 _ _ true w2 g1 g2 (by have := g1.bool_len; have := hML.out; unfold maxLen; omega) (by simp [Hid])
      generalize mulL data (prodU a (2 ^ b)) (2 ^ b) n = ml at *
      clear hok hN h
      generalize prodU a (2 ^ b) = ps at *
      have hnn : ((n : Int) != (n : Int)) = false := by simp
      go_enter Try.func5, Try.ntmps5
      go_wp2_with (first
        | (go_at_call 19; refine c1.mono ?_; clear c1; rintro e w1 ⟨hb1, A1, n1, k1, rfl, ho1⟩)
        | (go_at_call 17; refine (c2 _).mono ?_; clear c2; rintro e w' ⟨rfl, rfl⟩)
        | (go_at_call 18; refine (c3 _).mono ?_; clear c3; rintro e w2 ⟨A2, n2, k2, rfl, ho2, hb2⟩; obtain rfl : n2 = n := (by have := ho2.len; rw [List.length_map, HN.out] at this; exact this.symm); have hb12 := hb1.trans (hb2.mono hb1.size); have ho12 := ho1.below hb2 (Nat.le_refl _); have c4 := c4 w2 hb12)
        | (go_at_call 21; refine c4.mono ?_; clear c4; rintro e w3 ⟨A3, n3, k3, rfl, ho3, hb3⟩; have c5 := c5 A1 A3 n1 n3 k1 k3 w3 ((ho12.below hb3 (Nat.le_refl _)).reads) ho3.reads)
        | (go_at_call 20; refine c5.mono ?_; rintro e w4 ⟨rfl, t, rfl⟩))
      go_ret
      exact ⟨rfl, below_drewN (hb12.trans (hb3.mono hb12.size)) _⟩
    · have c1 := mul_Put_len a b N A n c w hb4 hab hN hne hmx hN80
      have hne2 : ¬ (n : Int) = (N : Int) := by omega
      have hne3 : ((n : Int) != (N : Int)) = true := by simp; omega
      clear hok hN h
      generalize prodU a (2 ^ b) = ps at *
      go_enter Try.func5, Try.ntmps5
      go_wp2_with (first
        | (go_at_call 19; refine c1.mono ?_; clear c1; rintro e w1 ⟨rfl, hb1⟩)
        | (go_at_call 17; refine (c2 _).mono ?_; clear c2; rintro e w' ⟨rfl, rfl⟩)
        | (go_at_call 18; refine (c3 _).mono ?_; clear c3; rintro e w2 ⟨A2, n2, k2, rfl, ho2, hb2⟩; obtain rfl : n2 = N := (by have := ho2.len; rw [List.length_map, HN.out] at this; exact this.symm)))
      go_ret
      exact ⟨rfl, hb1.trans (hb2.mono hb1.size)⟩
end Go.Proofs.Ytdlnbechpbielaa

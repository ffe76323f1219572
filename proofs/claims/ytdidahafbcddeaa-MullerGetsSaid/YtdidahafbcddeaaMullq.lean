import Derived.Test.YtdidahafbcddeaaMullp
set_option linter.unusedVariables false
namespace Go.Proofs.Ytdidahafbcddeaa
open Go.RowKit Go.Shelf Go.Sort

theorem in_test2 (x p : Nat) (hx : x < 1000) (hp : p < 1000) : (bits .and .i64 (p : Int) (x : Int) == (p : Int)) = inU p x := by
  rw [i64_and_nat p x (by omega) (by omega), Nat.and_comm]
  unfold inU
  rw [Bool.eq_iff_iff]; simp; omega
theorem mulL_snoc (data : List Bool) (ps : List Nat) (M k : Nat) : mulL data ps (M + 1) k = mulL data ps M k ++ [oddK data ps M k] := by
  unfold mulL; rw [List.range_succ, List.map_append]; rfl
set_option maxHeartbeats 1600000 in
theorem ref_Muller (r m M : Nat) (A : Option Addr) (n c : Nat) (data : List Bool) (ps : List Nat) (w : World) (h : Reads w w.heap.size A n (vb data)) (hm : m ≤ 4) (hr : r ≤ m) (hps : Hid (prodU r (2 ^ m) = ps)) (hM : Hid (2 ^ m = M)) (hn : Hid (ps.length = n)) :
    Calls Try.prog 32 #[.int .i64 (r : Int), .int .i64 (m : Int), .slice A n c] w (RetS w 4 (vb (mulL data ps M n))) := by
  have H := Lib.hid h.bool_len
  have hn80 : n ≤ 80 := by rw [← hn.out, ← hps.out]; exact prodU_len r m hm hr
  have cp := fun W => ref_Products r m W hm hr
  rw [hps.out] at cp
  have hM2 : M ≤ 16 := by rw [← hM.out]; exact Nat.pow_le_pow_right (n := 2) (by omega) hm
  have hMi : (2 : Int) ^ m = (M : Int) := by rw [← hM.out]; exact (Int.natCast_pow 2 m).symm
  have HPL : Hid (∀ p ∈ ps, p < 16) := fun p hp => by
    rw [← hps.out] at hp
    have := prodU_lt r (2 ^ m) p hp
    rw [hM.out] at this; omega
  go_enter Try.func32, Try.ntmps32
  go_wp2
  go_loopw [7, 8] (fun v xv wr => ∃ x : Nat, x ≤ M ∧ xv = .int .i64 x ∧ Own wr w.heap.size 4 v (vb (mulL data ps x n)) ∧ Below w.heap.size w wr) (fun _ xv _ => M - (intOf xv).toNat)
  case atStart => exact ⟨0, by omega, rfl, (by unfold mulL; simpa using Own.nil _ _ _), Below.refl _ _⟩
  case round =>
    obtain ⟨x, hx, rfl, hown, hbel⟩ := hrel
    have hvl : (vb (mulL data ps x n)).length ≤ 16 := by rw [List.length_map, mulL_len]; omega
    by_cases hlt : x < M
    · have cp := cp wr
      have HN : Hid (vb (mulL data ps x n) ++ [Value.bool (oddK data ps x n)] = vb (mulL data ps (x + 1) n)) := by unfold Hid; rw [mulL_snoc]; simp [vb]
      have x1 : (x : Int) < (M : Int) := by omega
      go_wp2_with (go_at_call 29; refine cp.mono ?_; clear cp; rintro e w1 ⟨A1, n1, c1, rfl, ho1, hb1⟩; obtain rfl : n1 = n := (by have := ho1.len; rw [List.length_map, hn.out] at this; exact this.symm))
      have hown1 := hown.below hb1 (Nat.le_refl _)
      have hbel1 := hbel.trans (hb1.mono hbel.size)
      go_loop [9, 23] (fun o iv => ∃ k : Nat, k ≤ n1 ∧ iv = .int .i64 k ∧ o = .bool (oddK data ps x k)) (fun _ iv => n1 - (intOf iv).toNat)
      case atStart => exact ⟨0, by omega, rfl, rfl⟩
      case round =>
        obtain ⟨k, hk, rfl, rfl⟩ := hrel
        by_cases hkn : k < n1
        · obtain ⟨ad, b, rfl, hb, hxb, hc0⟩ := h.bool_at hkn
          have hc : w1.cell? (ad.add k) = some (.bool b) := (hbel1.cell (by rw [block_of_add]; exact hb)).trans hc0
          obtain ⟨ad1, p, rfl, _, hp, hcp⟩ := ho1.reads.nat_at hkn
          have hp16 := HPL.out p (mem_at hp)
          have HO : Hid (oddK data ps x (k + 1) = (oddK data ps x k != (b && inU p x))) := by
            unfold Hid; rw [oddK, List.getD_eq_getElem?_getD, hxb, List.getD_eq_getElem?_getD, hp]; rfl
          have ht := in_test2 x p (by omega) (by omega)
          clear hxb hp hc0
          generalize oddK data ps x k = o at *
          generalize inU p x = q at *
          cases b
          · go_wp2
            go_round
            case rel => exact ⟨k + 1, by omega, by go_num, by rw [HO.out]; cases o <;> rfl⟩
            case measure => simp [intOf]; omega
          · cases q
            · go_wp2
              go_round
              case rel => exact ⟨k + 1, by omega, by go_num, by rw [HO.out]; cases o <;> rfl⟩
              case measure => simp [intOf]; omega
            · go_wp2
              go_round
              case rel => exact ⟨k + 1, by omega, by go_num, by rw [HO.out]; cases o <;> rfl⟩
              case measure => simp [intOf]; omega
        · obtain rfl : k = n1 := by omega
          generalize oddK data ps x k = o at *
          go_wp2_with (at_builtin; refine app1 el_clone_bools rfl _ _ rfl rfl hown1 _ _ rfl rfl (by unfold maxLen; omega) (by omega) hbel1.size ?_; intro v2 w2 ho2 hb2 _ _)
          rw [HN.out] at ho2
          go_roundw
          case rel => exact ⟨x + 1, by omega, by go_num, ho2, hbel1.trans hb2⟩
          case measure => simp [intOf]; omega
    · obtain rfl : x = M := by omega
      have x1 : ¬ (x : Int) < (x : Int) := by omega
      obtain ⟨A2, c2, e⟩ := hown.form
      generalize (vb (mulL data ps x n)).length = N at e
      subst e
      go_wp2
      go_ret
      exact ⟨A2, N, c2, rfl, hown, hbel⟩
end Go.Proofs.Ytdidahafbcddeaa

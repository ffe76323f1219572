import Derived.Test.YtmepiiheidmbgaaRoundp
set_option linter.unusedVariables false
namespace Go.Proofs.Ytmepiiheidmbgaa
open Go.RowKit

theorem readsWin {w : World} {B n i m : Nat} {ad : Addr} {l : List Bool} (h : Reads w B (some ad) n (vb l)) (hk : i + m ≤ n) : Reads w B (some (ad.add i)) m (vb (winR l i m)) := by
  have hl := h.bool_len
  refine ⟨by rw [List.length_map, winR_len (by omega)], fun hm => ?_⟩
  obtain ⟨ad', e, hb, hc⟩ := h.cells (by omega)
  injection e with e
  subst e
  refine ⟨_, rfl, by rw [block_of_add]; exact hb, fun j u hu => ?_⟩
  rw [add_of_add]
  apply hc
  unfold winR at hu
  rw [List.getElem?_map, List.getElem?_take] at hu
  split at hu
  · rw [List.getElem?_drop] at hu
    rw [List.getElem?_map]; exact hu
  · simp at hu
theorem hitR_false {l : List Bool} {n : Nat} (h : ∀ j, j < l.length + 1 - n → winR l j n ≠ endR l n true) : hitR l n = false := by
  unfold hitR
  rw [List.any_eq_false]
  intro j hj
  simpa using h j (List.mem_range.1 hj)
theorem hitR_true {l : List Bool} {n i : Nat} (hi : i < l.length + 1 - n) (h : winR l i n = endR l n true) : hitR l n = true := by
  unfold hitR
  rw [List.any_eq_true]
  exact ⟨i, List.mem_range.2 hi, by simpa using h⟩
set_option maxRecDepth 100000 in
set_option maxHeartbeats 1600000 in
theorem ref_Round (n : Nat) (w : World) (h1 : 1 ≤ n) (h6 : n ≤ 6) :
    Calls Try.prog 22 #[.int .i64 (n : Int)] w (RetS w 4 (vb (rdR n (2 ^ n - n)))) := by
  obtain ⟨M, hM⟩ : ∃ M, M = 2 ^ n := ⟨_, rfl⟩
  have hM64 : M ≤ 64 := by
    have := Nat.pow_le_pow_right (n := 2) (by omega) h6
    omega
  have hMn : n ≤ M := by have := Nat.lt_two_pow_self (n := n); omega
  have hMi : (2 : Int) ^ n = (M : Int) := by rw [hM]; exact (Int.natCast_pow 2 n).symm
  rw [← hM]
  clear hM
  go_enter Try.func22, Try.ntmps22
  go_wp2_with (at_make; refine mkN el_clone_bools rfl _ _ rfl w.heap.size n rfl rfl rfl rfl (by omega) (by unfold maxLen; omega) (Nat.le_refl _) ?_; intro w1 ho1 hb1 hs1)
  have ho2 : Own w1 w.heap.size 4 (.slice (some ⟨w.heap.size, 0, none⟩) n n) (vb (rdR n 0)) := by simpa [rdR, vb] using ho1
  clear ho1
  go_loopw [3] (fun v wr => ∃ k : Nat, k ≤ M - n ∧ Own wr w.heap.size 4 v (vb (rdR n k)) ∧ Below w.heap.size w wr) (fun v _ => M - lenV v)
  case atStart => exact ⟨0, by omega, ho2, hb1⟩
  case round =>
    clear ho2 hb1
    obtain ⟨k, hk, hown, hbel⟩ := hrel
    obtain ⟨A1, c1, e⟩ := hown.form
    rw [List.length_map, rdR_len] at e
    obtain ⟨L, hL⟩ : ∃ L, L = n + k := ⟨_, rfl⟩
    rw [← hL] at e
    subst e
    by_cases hlt : L < M
    · have hLM : (L : Int) < (M : Int) := by omega
      have hrl := Lib.hid (rdR_len n k)
      have hnl : n ≤ (rdR n k).length := by rw [rdR_len]; omega
      have HW := Lib.hid (fun i (h : i + n ≤ (rdR n k).length) => winR_old (l := rdR n k) (n := n) (i := i) true h)
      have HE := Lib.hid (winR_new true h1 hnl)
      have HT : Hid (hitR (rdR n k) n = true → rdR n (k + 1) = rdR n k ++ [false]) := fun h => by rw [rdR, h]; rfl
      have HF : Hid (hitR (rdR n k) n = false → rdR n (k + 1) = rdR n k ++ [true]) := fun h => by rw [rdR, h]; rfl
      have HRL : Hid ((vb (rdR n k)).length = L) := by unfold Hid; rw [List.length_map, hrl.out, hL]
      have HRL2 : Hid ((rdR n k).length = L) := by unfold Hid; rw [hrl.out, hL]
      have HLL := Lib.hid hL
      have h0 : Hid (([] : List Value).length = 0) := rfl
      have hvl : Hid (([] ++ vb (rdR n k) : List Value).length = L) := by unfold Hid; rw [List.nil_append]; exact HRL.out
      have hN7 : Hid (([] ++ vb (rdR n k)) ++ [Value.bool true] = vb (rdR n k ++ [true])) := by unfold Hid vb; simp
      obtain ⟨N1, hN1⟩ : ∃ N, N = L + 1 := ⟨_, rfl⟩
      obtain ⟨s, hs⟩ : ∃ s, s + n = N1 := ⟨L + 1 - n, by omega⟩
      have eL : (N1 : Int) - (n : Int) = (s : Int) := by omega
      have eN : (N1 : Int) - 1 = (L : Int) := by omega
      have HN1 := Lib.hid hN1
      have hN65 : N1 ≤ 64 := by omega
      have hs1 : 1 ≤ s := by omega
      have hsL : s ≤ L := by omega
      have es2 : Hid (N1 - s = n) := by unfold Hid; omega
      have HS := Lib.hid hs
      have hB := hbel.size
      have hoA : Own (wr.alloc (.cells #[] 4)) wr.heap.size 4 (.slice (some ⟨wr.heap.size, 0, none⟩) 0 0) [] := Own.built wr #[] 0 rfl (by unfold maxLen; omega) (Nat.le_refl _)
      have hrA : Reads (wr.alloc (.cells #[] 4)) wr.heap.size A1 L (vb (rdR n k)) := hown.reads.alloc (Nat.le_refl _) _
      have hbA : Below wr.heap.size wr (wr.alloc (.cells #[] 4)) := (Below.refl _ _).alloc (Nat.le_refl _) _
      clear hL hs hrl hnl hown hN1
      go_wp2_with (first
        | (at_builtin; refine appN el_clone_bools rfl _ _ rfl rfl hoA rfl hrA (one_vbR _) (by rw [h0.out]; unfold maxLen; omega) (by rw [h0.out]; omega) hbA.size ?_; clear hoA hrA; intro v3 w3 ho3 hb3 _ _; have hb03 := hbA.trans hb3)
        | (at_builtin; refine app1 el_clone_bools rfl _ _ rfl rfl ho3 _ _ rfl rfl (by rw [hvl.out]; unfold maxLen; omega) (by rw [hvl.out]; omega) hb03.size ?_; clear ho3; intro v4 w4 ho4 hb4 _ _; rw [hN7.out] at ho4; have hb04 := hb03.trans hb4; obtain ⟨A4, c4, e4⟩ := ho4.form; rw [List.length_map, List.length_append, HRL2.out, List.length_cons, List.length_nil, show L + (0 + 1) = N1 from HN1.out.symm] at e4; subst e4; obtain ⟨ad4, rfl, _⟩ := ho4.reads.cells (by omega); have hcap := ho4.capLe'; have hsc2 : s < c4 := (by have := HS.out; omega); have hsc1 : ¬ c4 = s := (by omega); have i1 : (s : Int) ≤ (N1 : Int) := (by have := HS.out; omega)))
      have hrE : Reads w4 w4.heap.size (some (ad4.add s)) (N1 - s) (vb (endR (rdR n k) n true)) := by
        have e1 : s + n = N1 := HS.out
        rw [es2.out, ← HE.out, show (rdR n k).length + 1 - n = s from by have := HRL2.out; have := HN1.out; omega]
        exact readsWin ho4.reads (Nat.le_of_eq e1)
      have hEs := es2.out
      have HES := Lib.hid hEs
      clear hEs
      go_loopw [6] (fun iv wi => ∃ i q : Nat, i + n ≤ N1 ∧ iv = .int .i64 i ∧ wi = w4.drewN q ∧ Hid (∀ j, j < i → winR (rdR n k) j n ≠ endR (rdR n k) n true)) (fun iv _ => N1 - (intOf iv).toNat)
      case atStart => exact ⟨0, 0, by have := HS.out; omega, rfl, rfl, fun j hj => absurd hj (by omega)⟩
      case round =>
        obtain ⟨i, q, hi, rfl, rfl, hall⟩ := hrel
        by_cases hil : i + n < N1
        · obtain ⟨hh, hhe⟩ : ∃ hh, hh = i + n := ⟨_, rfl⟩
          have e1 : (i : Int) + (n : Int) = (hh : Int) := by omega
          have e2 : hh - i = n := by omega
          have e3 : i + n ≤ (rdR n k).length := by have := HRL2.out; have := HN1.out; omega
          have hri : Reads w4 w4.heap.size (some (ad4.add i)) (hh - i) (vb (winR (rdR n k) i n)) := by
            rw [e2, ← HW.out i e3]; exact readsWin ho4.reads (by omega)
          have cb := fun (b : Bool) (hr : Hid (decide (winR (rdR n k) i n = endR (rdR n k) n true) = b)) => ref_Bools (some (ad4.add i)) (some (ad4.add s)) (hh - i) (N1 - s) (c4 - i) (c4 - s) _ _ b (w4.drewN q) (hri.drewN q) (hrE.drewN q) (by unfold maxLen; omega) hr
          have j1 : (i : Int) ≤ (hh : Int) := by omega
          have j2 : (hh : Int) < (N1 : Int) := by omega
          have j3 : ¬ c4 = i := by omega
          have j4 : i < c4 := by omega
          have j5 : hh ≤ c4 := by omega
          have j6 : i ≤ hh := by omega
          have HII : Hid (i < (rdR n k).length + 1 - n) := by unfold Hid; omega
          clear e2 e3 hri hhe
          by_cases he : winR (rdR n k) i n = endR (rdR n k) n true
          · have cb := cb true (by unfold Hid; simpa using he)
            have HNX := Lib.hid (HT.out (hitR_true HII.out he))
            have hl4 : Hid ((vb (rdR n k ++ [true])).set L (.bool false) = vb (rdR n k ++ [false])) := by
              unfold Hid vb
              rw [List.map_append, List.map_append, List.set_append_right _ _ (by simp [HRL2.out])]
              congr 1
              simp [HRL2.out]
            have hLN : L < N1 := by have := HN1.out; omega
            have hfz5 := ho4.frozenAt L
            obtain ⟨ad5, x5, e5, _, _, hc5⟩ := ho4.reads.bool_at hLN
            injection e5 with e5
            subst e5
            clear he
            go_wp2_with (go_at_call 16; refine cb.mono ?_; clear cb; rintro e w' ⟨rfl, m, rfl⟩; have ho5 := ho4.drewN (q + m); have hset5 := ho5.set L (.bool false); have hb5 := below_drewN hb04 (q + m); have hb6 := hb5.trans (ho5.setBelow (Nat.le_refl _) L (.bool false)))
            rw [hl4.out, ← HNX.out] at hset5
            go_roundw
            case rel => first | exact ⟨k + 1, by have := HLL.out; omega, hset5.low hB, hbel.trans (hb6.mono hB)⟩ | (rw [World.drewN_drewN]; exact ⟨k + 1, by have := HLL.out; omega, hset5.low hB, hbel.trans (hb6.mono hB)⟩)
            case measure => simp only [lenV]; have := HN1.out; omega
          · have cb := cb false (by unfold Hid; simpa using he)
            have HA : Hid (∀ j, j < i + 1 → winR (rdR n k) j n ≠ endR (rdR n k) n true) := fun j hj => by
              rcases Nat.lt_or_ge j i with h | h
              · exact hall.out j h
              · obtain rfl : j = i := by omega
                exact he
            clear he
            go_wp2_with (go_at_call 16; refine cb.mono ?_; clear cb; rintro e w' ⟨rfl, m, rfl⟩)
            go_roundw
            case rel => exact ⟨i + 1, q + m, by omega, by go_num, by first | rfl | rw [World.drewN_drewN], HA⟩
            case measure => simp [intOf]; omega
        · have e1 : ¬ (i : Int) + (n : Int) < (N1 : Int) := by omega
          have HNX := Lib.hid (HF.out (hitR_false fun j hj => hall.out j (by have := HRL2.out; have := HN1.out; omega)))
          have ho5 := ho4.drewN q
          rw [← HNX.out] at ho5
          go_wp2
          go_roundw
          case rel => exact ⟨k + 1, by have := HLL.out; omega, ho5.low hB, hbel.trans ((below_drewN hb04 q).mono hB)⟩
          case measure => simp only [lenV]; have := HN1.out; omega
    · have hLM : ¬ (L : Int) < (M : Int) := by omega
      obtain rfl : k = M - n := by omega
      obtain rfl : L = M := by omega
      clear hL
      go_wp2
      go_ret
      exact ⟨A1, L, c1, rfl, hown, hbel⟩
set_option maxHeartbeats 400000 in
theorem GrayRounds_walk (n : Int) (w : World) (_ : (Lit.int .i64 n).wf = true) :
    Calls Try.prog 5 #[.int .i64 n] w (LawTrue w) := by
  by_cases h1 : n < 1
  · have c1 : Calls Try.prog 21 #[.int .i64 n] w (Ret w (.tuple #[.slice none 0 0, .int .i64 4])) := by
      go_enter Try.func21, Try.ntmps21
      go_wp2
      go_ret2
      exact ⟨rfl, rfl⟩
    go_enter Try.func5, Try.ntmps5
    go_wp2_with (go_at_call 21; refine c1.mono ?_; rintro e w1 ⟨rfl, rfl⟩)
    go_ret
    exact .same _
  by_cases h2 : 6 < n
  · have c1 : Calls Try.prog 21 #[.int .i64 n] w (Ret w (.tuple #[.slice none 0 0, .int .i64 4])) := by
      go_enter Try.func21, Try.ntmps21
      go_wp2
      go_ret2
      exact ⟨rfl, rfl⟩
    go_enter Try.func5, Try.ntmps5
    go_wp2_with (go_at_call 21; refine c1.mono ?_; rintro e w1 ⟨rfl, rfl⟩)
    go_ret
    exact .same _
  obtain ⟨m, rfl⟩ : ∃ m : Nat, n = m := ⟨n.toNat, by omega⟩
  have c1 := gray_Round m w (by omega) (by omega)
  have c2 := fun w => ref_Round m w (by omega) (by omega)
  have hl := Lib.hid (rdR_len m (2 ^ m - m))
  have hM : 2 ^ m ≤ 64 := by
    have := Nat.pow_le_pow_right (n := 2) (by omega) (show m ≤ 6 by omega)
    omega
  have c3 := fun (A1 A2 : Option Addr) (n1 n2 k1 k2 : Nat) (w2 : World) (g1 : Reads w2 w2.heap.size A1 n1 (vb (rdR m (2 ^ m - m)))) (g2 : Reads w2 w2.heap.size A2 n2 (vb (rdR m (2 ^ m - m)))) => ref_Bools A1 A2 n1 n2 k1 k2 _ _ true w2 g1 g2 (by have := g1.bool_len; have := hl.out; unfold maxLen; omega) (by simp [Hid])
  clear hM
  generalize rdR m (2 ^ m - m) = xs at *
  go_enter Try.func5, Try.ntmps5
  go_wp2_with (first | (go_at_call 21; refine c1.mono ?_; rintro e w1 ⟨A1, n1, k1, rfl, ho1, hb1⟩) | (go_at_call 22; refine (c2 _).mono ?_; rintro e w2 ⟨A2, n2, k2, rfl, ho2, hb2⟩; have c3 := c3 A1 A2 n1 n2 k1 k2 w2 ((ho1.reads.below hb2).more hb2.size) ho2.reads) | (go_at_call 16; refine c3.mono ?_; rintro e w3 ⟨rfl, m, rfl⟩))
  go_ret
  exact ⟨rfl, below_drewN (hb1.trans (hb2.mono hb1.size)) _⟩
end Go.Proofs.Ytmepiiheidmbgaa

import Derived.Test.YtfhpgiidcggobaaAlpham
set_option linter.unusedVariables false
namespace Go.Proofs.Ytfhpgiidcggobaa
open Go.RowKit

def InvA (ls : List (List Bool)) (pos : Nat) : Prop := ∀ m x, m ≤ 8 → x < 2 ^ m → (ls.all fun v => risesB v (digitsL x m)) = decide (pos ≤ x * 2 ^ (8 - m))
theorem InvA_nil : InvA [] 0 := fun m x _ _ => by simp
theorem InvA_step {ls : List (List Bool)} {pos m x0 : Nat} (h : InvA ls pos) (hm : m ≤ 8) (hx : x0 < 2 ^ m) (hp : pos ≤ x0 * 2 ^ (8 - m)) : InvA (ls ++ [digitsL x0 m]) (x0 * 2 ^ (8 - m) + 2 ^ (8 - m)) := by
  intro n x hn hx2
  rw [List.all_append, h n x hn hx2]
  simp only [List.all_cons, List.all_nil, Bool.and_true]
  rw [rises_iff 8 m n x0 x hm hn hx hx2, show (x0 + 1) * 2 ^ (8 - m) = x0 * 2 ^ (8 - m) + 2 ^ (8 - m) from by rw [Nat.add_mul, Nat.one_mul]]
  generalize x0 * 2 ^ (8 - m) = b at *
  generalize x * 2 ^ (8 - n) = X at *
  generalize 2 ^ (8 - m) = T at *
  by_cases h1 : b + T ≤ X
  · rw [decide_eq_true h1, decide_eq_true (by omega)]; rfl
  · rw [decide_eq_false h1, Bool.and_false]
theorem xNext_ge {pos P : Nat} (h : 0 < P) : pos ≤ xNext pos P * P := by
  unfold xNext
  have := Nat.div_add_mod (pos + P - 1) P
  have h2 := Nat.mod_lt (pos + P - 1) h
  rw [Nat.mul_comm] at this
  omega
theorem xNext_le {pos P x : Nat} (h : 0 < P) (hx : pos ≤ x * P) : xNext pos P ≤ x := by
  unfold xNext
  rw [Nat.div_le_iff_le_mul_add_pred h, Nat.mul_comm]
  omega
set_option maxRecDepth 100000 in
set_option maxHeartbeats 1600000 in
theorem ref_Ordered (A : Option Addr) (n c : Nat) (ns : List Nat) (R : Option (List (List Bool))) (w : World) (h : Reads w w.heap.size A n (vn .i64 ns)) (hn : n ≤ 8) (hl : ∀ x ∈ ns, x ≤ 8) (hR : Hid (alF ns [] 0 = R)) :
    Calls Try.prog 23 #[.slice A n c] w (PostA w 24 (.returned (.tuple #[.slice none 0 0, .bool false])) (fun A' n' c' => .returned (.tuple #[.slice A' n' c', .bool true])) R) := by
  have H := Lib.hid h.nat_len
  have HLn := Lib.hid hl
  go_enter Try.func23, Try.ntmps23
  go_wp2
  go_loopw [4, 15] (fun v i wr => ∃ (k pos : Nat) (ls : List (List Bool)), k ≤ n ∧ i = .int .i64 k ∧ ls.length = k ∧ OwnR wr w.heap.size 24 v (ls.map vb) ∧ Below w.heap.size w wr ∧ Hid (alF (ns.drop k) ls pos = R) ∧ Hid (InvA ls pos)  ∧ (∀ l ∈ ls, l.length ≤ 8)) (fun _ i _ => n - (intOf i).toNat)
  case atStart => exact ⟨0, 0, [], by omega, rfl, rfl, OwnR.nil _ _ _, Below.refl _ _, hR, InvA_nil, by simp⟩
  case round =>
    obtain ⟨k, pos, ls, hk, rfl, hlk, hown, hbel, hst, hinv, hl8⟩ := hrel
    have HL8 := Lib.hid hl8
    clear hl8
    by_cases hlt : k < n
    · obtain ⟨ad, m, rfl, hb, hx, hc0⟩ := h.nat_at hlt
      have hm8 : m ≤ 8 := HLn.out m (mem_at hx)
      have hc : wr.cell? (ad.add k) = some (.int .i64 (m : Int)) := (hbel.cell (by rw [block_of_add]; exact hb)).trans hc0
      have hst2 := hst.out
      rw [drop_next hx, alF] at hst2
      have HST := Lib.hid hst2
      have hPp : Hid (0 < 2 ^ (8 - m)) := Nat.pow_pos (by omega)
      obtain ⟨x0, hx0⟩ : ∃ x0, xNext pos (2 ^ (8 - m)) = x0 := ⟨_, rfl⟩
      have hge : Hid (pos ≤ x0 * 2 ^ (8 - m)) := by unfold Hid; rw [← hx0]; exact xNext_ge hPp.out
      have hle : Hid (∀ x, pos ≤ x * 2 ^ (8 - m) → x0 ≤ x) := fun x hx => by rw [← hx0]; exact xNext_le hPp.out hx
      have HX0 := Lib.hid hx0
      obtain ⟨M, hM⟩ : ∃ M, 2 ^ m = M := ⟨_, rfl⟩
      have hM1 : 1 ≤ M := by rw [← hM]; exact Nat.pow_pos (by omega)
      have hM2 : M ≤ 256 := by rw [← hM]; exact Nat.pow_le_pow_right (n := 2) (by omega) hm8
      have hMi : (2 : Int) ^ m = (M : Int) := by rw [← hM]; exact (Int.natCast_pow 2 m).symm
      have hMP : Hid (M * 2 ^ (8 - m) = 256) := by unfold Hid; rw [← hM, ← Nat.pow_add, show m + (8 - m) = 8 from by omega]
      have HM := Lib.hid hM
      have HLK := Lib.hid hlk
      clear hst hst2 hx hc0 hx0 hM hlk
      go_wp2
      go_loopw [4, 7, 8] (fun v f xv wi => ∃ (j : Nat) (q : Bool) (ls2 : List (List Bool)), xv = .int .i64 j ∧ f = .bool q ∧ j ≤ M ∧ OwnR wi w.heap.size 24 v (ls2.map vb) ∧ Below w.heap.size w wi ∧ Hid (q = false → ls2 = ls ∧ j ≤ x0) ∧ Hid (q = true → ls2 = ls ++ [digitsL x0 m] ∧ x0 < M)) (fun _ _ xv _ => M - (intOf xv).toNat)
      case atStart => exact ⟨0, false, ls, rfl, rfl, by omega, hown, hbel, fun _ => ⟨rfl, by omega⟩, fun hq => by cases hq⟩
      case round =>
        clear hown hbel
        obtain ⟨j, q, ls2, rfl, rfl, hj, hown, hbel, hF, hT⟩ := hrel
        cases q with
        | true =>
          obtain ⟨hls, hx0M⟩ := hT.out rfl
          have HLS := Lib.hid hls
          have hHS := HST.out
          rw [if_neg (by rw [HX0.out]; have h1 : (x0 + 1) * 2 ^ (8 - m) ≤ M * 2 ^ (8 - m) := Nat.mul_le_mul_right _ hx0M; rw [hMP.out, Nat.add_mul, Nat.one_mul] at h1; omega), HX0.out] at hHS
          have HN := Lib.hid hHS
          have HI : Hid (InvA (ls ++ [digitsL x0 m]) (x0 * 2 ^ (8 - m) + 2 ^ (8 - m))) := InvA_step hinv.out hm8 (by rw [HM.out]; exact hx0M) hge.out
          have HL9 : Hid (∀ l ∈ ls ++ [digitsL x0 m], l.length ≤ 8) := fun l hl => by
            rcases List.mem_append.1 hl with h1 | h1
            · exact HL8.out l h1
            · rw [List.mem_singleton.1 h1, digitsL_len]; exact hm8
          rw [hls] at hown
          clear hHS hls hF hT
          by_cases hjM : j < M
          · have d1 : decide ((j : Int) < (M : Int)) = true := by simp; omega
            have i1 : (j : Int) < (M : Int) := by omega
            go_wp2
            go_roundw
            case rel => exact ⟨k + 1, _, ls ++ [digitsL x0 m], by omega, by go_num, by simp [HLK.out], hown, hbel, HN, HI, HL9.out⟩
            case measure => simp [intOf]; omega
          · have d1 : decide ((j : Int) < (M : Int)) = false := by simp; omega
            have i1 : ¬ (j : Int) < (M : Int) := by omega
            go_wp2
            go_roundw
            case rel => exact ⟨k + 1, _, ls ++ [digitsL x0 m], by omega, by go_num, by simp [HLK.out], hown, hbel, HN, HI, HL9.out⟩
            case measure => simp [intOf]; omega
        | false =>
          obtain ⟨hls, hjx⟩ := hF.out rfl
          subst hls
          clear hF hT
          by_cases hjM : j < M
          · have d1 : decide ((j : Int) < (M : Int)) = true := by simp; omega
            have i1 : (j : Int) < (M : Int) := by omega
            have cd := ref_Digits j m wr (by omega) (by omega)
            have hWl := Lib.hid (digitsL_len j m)
            have hAll := Lib.hid (hinv.out m j hm8 (by rw [HM.out]; exact hjM))
            obtain ⟨A2, c2, ev⟩ := hown.form
            rw [List.length_map, HLK.out] at ev
            subst ev
            generalize hWd : digitsL j m = W at *
            have HWD := Lib.hid hWd
            clear hWd
            go_wp2_with (go_at_call 47; refine cd.mono ?_; clear cd; rintro e1 w1 ⟨A1, n1, c1, rfl, ho1, hb1⟩)
            have hown1 := hown.below hb1
            have hrows := hown1.rows
            have hbel1 := hbel.trans (hb1.mono hbel.size)
            have hlt0 : ∀ z, Value.ownBlock (.slice A2 k c2) = some z → z < wr.heap.size := by obtain ⟨vs0, hv0, _⟩ := hown; exact fun z hz => (Own.lt hv0 z hz).2
            have hn1 : n1 ≤ 8 := by have := ho1.reads.bool_len; have := hWl.out; omega
            go_loopw [10, 35] (fun ok i wi => ∃ q t : Nat, q ≤ k ∧ i = .int .i64 q ∧ wi = w1.drewN t ∧ ok = .bool ((ls2.take q).all fun v => risesB v W)) (fun _ i _ => k - (intOf i).toNat)
            case atStart => exact ⟨0, 0, by omega, rfl, rfl, by simp⟩
            case round =>
              obtain ⟨q, t, hq, rfl, rfl, rfl⟩ := hrel
              by_cases hqk : q < k
              · obtain ⟨ad3, l3, A3, n3, c3, rfl, hx3, hc3, hr3⟩ := hrows.brow hqk
                have hl3 := HL8.out l3 (mem_at hx3)
                have hn3 : n3 ≤ 8 := by have := hr3.bool_len; omega
                have HA : Hid (((ls2.take (q + 1)).all fun v => risesB v W) = (((ls2.take q).all fun v => risesB v W) && risesB l3 W)) := by
                  unfold Hid; rw [take_next hx3, List.all_append]; simp
                have cr := ref_Rises A3 A1 n3 n1 c3 c1 l3 W (risesB l3 W) (w1.drewN t) (hr3.drewN t) (ho1.reads.drewN t) (by omega) (by omega) rfl
                clear hx3 hl3
                generalize ((ls2.take q).all fun v => risesB v W) = B at *
                generalize risesB l3 W = r at *
                cases B
                · clear cr
                  go_wp2
                  go_roundw
                  case rel => exact ⟨q + 1, t, by omega, by go_num, rfl, by rw [HA.out]; rfl⟩
                  case measure => simp [intOf]; omega
                · go_wp2_with (go_at_call 48; refine cr.mono ?_; clear cr; rintro e2 w2 ⟨rfl, t2, rfl⟩)
                  go_roundw
                  case rel => exact ⟨q + 1, t + t2, by omega, by go_num, by first | rfl | rw [World.drewN_drewN], by rw [HA.out]; rfl⟩
                  case measure => simp [intOf]; omega
              · obtain rfl : q = k := by omega
                have hBv : ((ls2.take q).all fun v => risesB v W) = decide (pos ≤ j * 2 ^ (8 - m)) := by rw [List.take_of_length_le (Nat.le_of_eq HLK.out)]; exact hAll.out
                rw [hBv]
                by_cases hok : pos ≤ j * 2 ^ (8 - m)
                · obtain rfl : j = x0 := by have := hle.out j hok; omega
                  rw [decide_eq_true hok]
                  have hown2 := hown1.below (below_drewN (Below.refl _ w1) t)
                  obtain ⟨vs, hv, hrw⟩ := hown2
                  have hvl : vs.length = q := by rw [hrw.1, List.length_map, HLK.out]
                  have hbel2 := below_drewN hbel1 t
                  have ho1d := ho1.drewN t
                  have hnew : Hid (ls2.map vb ++ [vb W] = (ls2 ++ [W]).map vb) := by unfold Hid; simp
                  have hmx : n1 ≤ maxLen := by unfold maxLen; omega
                  clear hBv hok hown hown1 hrows
                  go_wp2_with (at_builtin; refine app1 el_rows rfl _ _ rfl rfl hv _ _ rfl rfl (by unfold maxLen; omega) (by omega) hbel2.size ?_; intro v2 w2 ho2 hb2 hg2 hat2; have hpush := rows_push hrw ho1d.reads hmx (fun ad ha hq => by have h1 := ho1d.beyond ad ha; have h2 := hlt0 _ hq; omega) ho1d.within ho2 hg2 hat2)
                  rw [hnew.out] at hpush
                  go_roundw
                  case rel => exact ⟨j + 1, true, ls2 ++ [W], by go_num, rfl, by omega, hpush, hbel2.trans hb2, (fun h => by cases h), fun _ => ⟨by rw [HWD.out], hjM⟩⟩
                  case measure => simp [intOf]; omega
                · rw [decide_eq_false hok]
                  have hjl : j + 1 ≤ x0 := by
                    rcases Nat.lt_or_ge j x0 with h1 | h1
                    · exact h1
                    · obtain rfl : j = x0 := by omega
                      exact absurd hge.out hok
                  have hown2 := hown1.below (below_drewN (Below.refl _ w1) t)
                  clear hBv hok hown hown1 hrows
                  go_wp2
                  go_roundw
                  case rel => exact ⟨j + 1, false, ls2, by go_num, rfl, by omega, hown2, below_drewN hbel1 t, (fun _ => ⟨rfl, hjl⟩), fun h => by cases h⟩
                  case measure => simp [intOf]; omega
          · have d1 : decide ((j : Int) < (M : Int)) = false := by simp; omega
            have i1 : ¬ (j : Int) < (M : Int) := by omega
            have hHS := HST.out
            rw [if_pos (by rw [HX0.out]; have h1 : M * 2 ^ (8 - m) ≤ x0 * 2 ^ (8 - m) := Nat.mul_le_mul_right _ (by omega); rw [hMP.out] at h1; have := hPp.out; omega)] at hHS
            subst hHS
            go_wp2
            go_ret2
            exact ⟨hbel, rfl⟩
    · obtain rfl : k = n := by omega
      have hst2 := hst.out
      rw [List.drop_of_length_le (Nat.le_of_eq H.out), alF] at hst2
      subst hst2
      obtain ⟨A2, c2, e⟩ := hown.form
      rw [List.length_map, hlk] at e
      subst e
      go_wp2
      go_ret2
      exact ⟨hbel, A2, k, c2, rfl, hown, hn⟩
end Go.Proofs.Ytfhpgiidcggobaa

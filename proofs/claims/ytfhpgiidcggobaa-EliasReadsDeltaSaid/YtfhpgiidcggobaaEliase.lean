import Derived.Test.YtfhpgiidcggobaaEliasd
set_option linter.unusedVariables false
namespace Go.Proofs.Ytfhpgiidcggobaa
open Go.RowKit

theorem ret_iiE {k k' : IntKind} {a b a' b' : Int} (h : a = b) (h2 : a' = b') : Ending.returned (.tuple #[.int k a, .int k' a']) = .returned (.tuple #[.int k b, .int k' b']) := by rw [h, h2]

set_option maxHeartbeats 1600000 in
theorem ref_ReadDelta (A : Option Addr) (n c : Nat) (l : List Bool) (a b : Nat) (w : World) (h : Reads w w.heap.size A n (vb l)) (hn : n ≤ 140737488355328) (hcap : n ≤ c) (hr : Hid (delR l n = (a, b))) :
    Calls Try.prog 20 #[.slice A n c, .bool true] w (RetB w (.tuple #[.int .i64 (a : Int), .int .i64 (b : Int)])) := by
  have H := Lib.hid h.bool_len
  have HZ := Lib.hid (zN_le l)
  go_enter Try.func20, Try.ntmps20
  go_wp2
  go_loop [6] (fun zv => ∃ k : Nat, k ≤ zN l ∧ zv = .int .i64 k) (fun zv => n - (intOf zv).toNat)
  case atStart => exact ⟨0, by omega, rfl⟩
  case round =>
    obtain ⟨k, hk, rfl⟩ := hrel
    have hkn : k ≤ n := by have h1 := HZ.out; have h2 := H.out; omega
    by_cases hlt : k < n ∧ l[k]? = some false
    · obtain ⟨hlt, hf⟩ := hlt
      obtain ⟨ad, bb, rfl, hb, hx, hc⟩ := h.bool_at hlt
      obtain rfl : bb = false := by have := hx.symm.trans hf; injection this
      have hk2 := zN_false hk hx
      have i1 : (0 : Int) ≤ (k : Int) := Int.natCast_nonneg k
      have i2 : (k : Int) < (n : Int) := Int.ofNat_lt.2 hlt
      clear hx hf
      go_wp2
      go_round
      case rel => exact ⟨k + 1, hk2, by go_num⟩
      case measure => simp [intOf]; omega
    · have hE : k = zN l := by
        rcases Nat.lt_or_ge k n with h1 | h1
        · obtain ⟨ad, bb, _, hb, hx, hc⟩ := h.bool_at h1
          cases bb
          · exact absurd ⟨h1, hx⟩ hlt
          · exact zN_true hk hx
        · have h2 := HZ.out; have h3 := H.out; omega
      have hcell : k < n → ∃ ad, A = some ad ∧ w.cell? (ad.add k) = some (.bool true) := fun h1 => by
        obtain ⟨ad, bb, e, hb, hx, hc⟩ := h.bool_at h1
        cases bb
        · exact absurd ⟨h1, hx⟩ hlt
        · exact ⟨ad, e, hc⟩
      have hz := hr.out
      unfold delR at hz
      have hgpos : k < n → 1 ≤ gamN l := fun h1 => by
        have h2 := gamN_ge (l := l) (by rw [← hE, H.out]; exact h1)
        have h3 := Nat.pow_pos (n := zN l) (show 0 < 2 by omega)
        omega
      rw [← hE] at hz
      have HG : Hid (gamN l = numF (subL l k (k + 1)) (k + 1)) := by unfold Hid gamN; rw [hE]
      clear hE hlt hr
      by_cases hbad : 4 < k ∨ n < 2 * k + 1
      · rw [if_neg (by omega)] at hz
        injection hz with e1 e2
        subst e1
        subst e2
        by_cases h1 : k < n
        · obtain ⟨ad, rfl, hc⟩ := hcell h1
          have i1 : (0 : Int) ≤ (k : Int) := Int.natCast_nonneg k
          have i2 : (k : Int) < (n : Int) := Int.ofNat_lt.2 h1
          by_cases h2 : 4 < k
          · have h3 : (4 : Int) < (k : Int) := by omega
            clear hbad hcell hgpos
            go_wp2
            go_ret2
            exact ⟨rfl, Below.refl _ _⟩
          · have h3 : ¬ (4 : Int) < (k : Int) := by omega
            have h4 : (n : Int) < 2 * (k : Int) + 1 := by omega
            clear hbad hcell hgpos
            go_wp2
            go_ret2
            exact ⟨rfl, Below.refl _ _⟩
        · clear hcell
          by_cases h2 : 4 < k
          · have h3 : (4 : Int) < (k : Int) := by omega
            have h5 : ¬ (k : Int) < (n : Int) := by omega
            clear hbad h1 hgpos
            go_wp2
            go_ret2
            exact ⟨rfl, Below.refl _ _⟩
          · have h3 : ¬ (4 : Int) < (k : Int) := by omega
            have h4 : (n : Int) < 2 * (k : Int) + 1 := by omega
            have h5 : ¬ (k : Int) < (n : Int) := by omega
            clear hbad h1 hgpos
            go_wp2
            go_ret2
            exact ⟨rfl, Below.refl _ _⟩
      · obtain ⟨ad, e, hc⟩ := hcell (by omega)
        subst e
        have hg1 := hgpos (by omega)
        have i1 : (0 : Int) ≤ (k : Int) := Int.natCast_nonneg k
        have i2 : (k : Int) < (n : Int) := by omega
        have hm := h.mid (k := k) (m := k + 1) (by omega)
        have cn1 := fun q w' (hb : Below w.heap.size w w') => ref_number (some (ad.add k)) (k + 1) q (subL l k (k + 1)) w' (hm.below hb) (by omega)
        rw [← HG.out] at cn1
        have h3 : ¬ (4 : Int) < (k : Int) := by omega
        have h4 : ¬ (n : Int) < 2 * (k : Int) + 1 := by omega
        obtain ⟨u, hu⟩ : ∃ u : Nat, u = 2 * k + 1 := ⟨_, rfl⟩
        have eu : 2 * (k : Int) + 1 = (u : Int) := by omega
        have eus : u - k = k + 1 := by omega
        have hun : u ≤ n := by omega
        have huc0 : u ≤ c := by omega
        have hku : k ≤ u := by omega
        have hkc : k < c := by omega
        have hu9 : u ≤ 9 := by omega
        have hu1 : 1 ≤ u := by omega
        rw [eu] at h4
        rw [← hu] at hz
        have hk4 : k ≤ 4 := by omega
        clear hbad hcell hgpos hm HG
        obtain ⟨m, hm'⟩ : ∃ m, m = gamN l - 1 := ⟨_, rfl⟩
        have hgm : gamN l = m + 1 := by omega
        rw [← hm', hgm] at hz
        rw [hgm] at cn1
        clear hgm hm' hg1 hu
        have em : ((m + 1 : Nat) : Int) = (m : Int) + 1 := by omega
        rw [em] at cn1
        have cn1 := fun q => cn1 q w (Below.refl _ _)
        by_cases h7 : 20 < m
        · rw [if_neg (by omega)] at hz
          injection hz with e1 e2
          subst e1
          subst e2
          have h8 : (21 : Int) < (m : Int) + 1 := by omega
          clear h7
          go_wp2_with (go_at_call 44; refine (cn1 _).mono ?_; rintro e w' ⟨rfl, rfl⟩)
          go_ret2
          exact ⟨rfl, Below.refl _ _⟩
        · rw [if_pos ⟨by omega, by omega, by omega⟩] at hz
          have h8 : ¬ (21 : Int) < (m : Int) + 1 := by omega
          have hm20 : m ≤ 20 := by omega
          clear h7
          have es : (u : Int) + ((m : Int) + 1) - 1 = (u : Int) + m := by omega
          by_cases h9 : u + m ≤ n
          · obtain ⟨hi, hhi⟩ : ∃ hi : Nat, hi = u + m := ⟨_, rfl⟩
            have ehi : (u : Int) + (m : Int) = (hi : Int) := by omega
            have esz : hi - u = m := by omega
            have hhic : hi ≤ c := by omega
            have huhi : u ≤ hi := by omega
            have hoA : Own (w.alloc (.cells #[.bool true] 4)) w.heap.size 4 (.slice (some ⟨w.heap.size, 0, none⟩) 1 1) [.bool true] := Own.built w #[.bool true] 1 rfl (by unfold maxLen; omega) (Nat.le_refl _)
            have hbA : Below w.heap.size w (w.alloc (.cells #[.bool true] 4)) := (Below.refl _ _).alloc (Nat.le_refl _) _
            have hrd : ∀ A', (0 < m → A' = some (ad.add u)) → Reads (w.alloc (.cells #[.bool true] 4)) w.heap.size A' m (vb (subL l u m)) := fun A' hA' => part_reads (c := c) (h.alloc (Nat.le_refl _) _) h9 A' hA'
            have cn := fun (A' : Option Addr) (q : Nat) (w' : World) (B : Nat) (hrr : Reads w' B A' (m + 1) (vb (delL l u m))) => ref_number A' (m + 1) q (delL l u m) w' hrr (by omega)
            have HG : Hid (delN l u m = numF (delL l u m) (m + 1)) := rfl
            rw [← HG.out] at cn
            have hdl := Lib.hid (delL_len (u := u) (m := m) H.out h9)
            have HV := Lib.hid (delL_vb l u m)
            have h10 : ¬ ((n : Int) < (hi : Int)) := by omega
            have HRD := Lib.hid hrd
            have hone : Hid (([Value.bool true] : List Value).length = 1) := rfl
            clear hrd
            by_cases h5 : delN l u m ≤ 1048576
            · rw [if_pos ⟨h9, h5⟩] at hz
              injection hz with e1 e2
              subst e1
              have h6 : ¬ (1048576 : Int) < (delN l u m : Int) := by omega
              have HB : Hid ((hi : Int) = (b : Int)) := by unfold Hid; omega
              clear h5 h9 e2 hhi HG
              generalize delN l u m = g at *
              by_cases huc : u < c
              · have hr2 := HRD.out (some (ad.add u)) (fun _ => rfl)
                go_wp2_with (first | (go_at_call 44; refine (cn1 _).mono ?_; clear cn1; rintro e w' ⟨rfl, rfl⟩) | (at_builtin; refine appN el_boolsE rfl _ _ rfl rfl hoA rfl hr2 (one_vbE _) (by rw [hone.out]; unfold maxLen; omega) (by rw [hone.out]; omega) hbA.size ?_; intro v2 w2 ho2 hb2 _ _; rw [HV.out] at ho2; obtain ⟨A2, k2, e2⟩ := ho2.form; rw [List.length_map, hdl.out] at e2; subst e2; have cn := cn A2 k2 w2 _ ho2.reads) | (go_at_call 44; refine cn.mono ?_; rintro e w' ⟨rfl, rfl⟩))
                go_ret2
                exact ⟨ret_iiE rfl (by have := HB.out; omega), hbA.trans hb2⟩
              · have hr2 := HRD.out (some ad) (fun _ => by omega)
                obtain rfl : c = u := by omega
                obtain rfl : m = 0 := by omega
                go_wp2_with (first | (go_at_call 44; refine (cn1 _).mono ?_; clear cn1; rintro e w' ⟨rfl, rfl⟩) | (at_builtin; refine appN el_boolsE rfl _ _ rfl rfl hoA rfl hr2 (one_vbE _) (by rw [hone.out]; unfold maxLen; omega) (by rw [hone.out]; omega) hbA.size ?_; intro v2 w2 ho2 hb2 _ _; rw [HV.out] at ho2; obtain ⟨A2, k2, e2⟩ := ho2.form; rw [List.length_map, hdl.out] at e2; subst e2; have cn := cn A2 k2 w2 _ ho2.reads) | (go_at_call 44; refine cn.mono ?_; rintro e w' ⟨rfl, rfl⟩))
                go_ret2
                exact ⟨ret_iiE rfl (by have := HB.out; omega), hbA.trans hb2⟩
            · rw [if_neg (by omega)] at hz
              injection hz with e1 e2
              subst e1
              subst e2
              have h6 : (1048576 : Int) < (delN l u m : Int) := by omega
              clear h5 h9 hhi HG
              generalize delN l u m = g at *
              by_cases huc : u < c
              · have hr2 := HRD.out (some (ad.add u)) (fun _ => rfl)
                go_wp2_with (first | (go_at_call 44; refine (cn1 _).mono ?_; clear cn1; rintro e w' ⟨rfl, rfl⟩) | (at_builtin; refine appN el_boolsE rfl _ _ rfl rfl hoA rfl hr2 (one_vbE _) (by rw [hone.out]; unfold maxLen; omega) (by rw [hone.out]; omega) hbA.size ?_; intro v2 w2 ho2 hb2 _ _; rw [HV.out] at ho2; obtain ⟨A2, k2, e2⟩ := ho2.form; rw [List.length_map, hdl.out] at e2; subst e2; have cn := cn A2 k2 w2 _ ho2.reads) | (go_at_call 44; refine cn.mono ?_; rintro e w' ⟨rfl, rfl⟩))
                go_ret2
                exact ⟨rfl, hbA.trans hb2⟩
              · have hr2 := HRD.out (some ad) (fun _ => by omega)
                obtain rfl : c = u := by omega
                obtain rfl : m = 0 := by omega
                go_wp2_with (first | (go_at_call 44; refine (cn1 _).mono ?_; clear cn1; rintro e w' ⟨rfl, rfl⟩) | (at_builtin; refine appN el_boolsE rfl _ _ rfl rfl hoA rfl hr2 (one_vbE _) (by rw [hone.out]; unfold maxLen; omega) (by rw [hone.out]; omega) hbA.size ?_; intro v2 w2 ho2 hb2 _ _; rw [HV.out] at ho2; obtain ⟨A2, k2, e2⟩ := ho2.form; rw [List.length_map, hdl.out] at e2; subst e2; have cn := cn A2 k2 w2 _ ho2.reads) | (go_at_call 44; refine cn.mono ?_; rintro e w' ⟨rfl, rfl⟩))
                go_ret2
                exact ⟨rfl, hbA.trans hb2⟩
          · rw [if_neg (by omega)] at hz
            injection hz with e1 e2
            subst e1
            subst e2
            have hle : (n : Int) < (u : Int) + m := by omega
            go_wp2_with (go_at_call 44; refine (cn1 _).mono ?_; rintro e w' ⟨rfl, rfl⟩)
            go_ret2
            exact ⟨rfl, Below.refl _ _⟩
set_option maxHeartbeats 400000 in
theorem EliasReadsDelta_walk (A : Option Addr) (n c : Nat) (l : List Bool) (w : World) (h : Reads w w.heap.size A n (vb l)) (hm : n * 1 ≤ reachBytes) (hcap : n ≤ c) :
    Calls Try.prog 11 #[.slice A n c] w (LawTrue w) := by
  have hn : n ≤ 140737488355328 := by have := reachBytes_lt; omega
  obtain ⟨a, b, hr⟩ : ∃ a b, Hid (delR l n = (a, b)) := ⟨_, _, rfl⟩
  have c1 := elias_ReadDelta A n c l a b w h hn hcap hr
  have c2 := fun (w1 : World) (hb1 : Below w.heap.size w w1) => ref_ReadDelta A n c l a b w1 ((h.below hb1).more hb1.size) hn hcap hr
  clear hm
  by_cases hb : b = 0
  · subst hb
    obtain rfl := delR_zero hr.out
    rw [if_pos rfl] at c1
    clear hr
    go_enter Try.func11, Try.ntmps11
    go_wp2_with (first | (go_at_call 37; refine c1.mono ?_; rintro e w1 ⟨rfl, hb1⟩) | (go_at_call 20; refine (c2 _ hb1).mono ?_; rintro e w2 ⟨rfl, hb2⟩))
    go_ret
    exact ⟨rfl, hb1.trans (hb2.mono hb1.size)⟩
  · have ht : ((b : Int) == 0) = false := by simp; omega
    rw [if_neg hb] at c1
    clear hr hb
    go_enter Try.func11, Try.ntmps11
    go_wp2_with (first | (go_at_call 37; refine c1.mono ?_; rintro e w1 ⟨rfl, hb1⟩) | (go_at_call 20; refine (c2 _ hb1).mono ?_; rintro e w2 ⟨rfl, hb2⟩))
    go_ret
    exact ⟨rfl, hb1.trans (hb2.mono hb1.size)⟩
end Go.Proofs.Ytfhpgiidcggobaa

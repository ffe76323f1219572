/-
  DoubleFills: the law's walk.
-/
import Derived.Test.YthbmnaonnebnhaaDoubler
import Derived.Test.YthbmnaonnebnhaaInts
set_option linter.unusedVariables false
namespace Go.Proofs.Ythbmnaonnebnhaa
open Go.RowKit

theorem ref_DoubleFill (A A' : Option Addr) (n n2 c c' P Q : Nat) (hasP hasQ ok : Bool) (l : List Int) (lost : List Bool) (D res : List Nat) (w : World) (h : Reads w w.heap.size A n (vi .i64 l)) (h' : Reads w w.heap.size A' n (vb lost)) (hcap : n ≤ c) (h3 : 3 ≤ n) (h14 : n ≤ 14) (hn2 : n2 + 2 ≤ n) (hn2' : n ≤ n2 + 2)
    (hG2 : (goneL lost n2).length ≤ 2) (hDl : D.length = n2) (hDa : ∀ k, k ∉ goneL lost n2 → (D.map (fun x : Nat => (x : Int)))[k]? = (l.take n2)[k]?) (HD16 : Hid (∀ x ∈ D, x < 16)) (hp0 : Hid (lost[n2]? = some (!hasP))) (hq0 : Hid (lost[n2 + 1]? = some (!hasQ))) (HZP' : Hid (hasP = true → l[n2]? = some (P : Int))) (HZQ' : Hid (hasQ = true → l[n2 + 1]? = some (Q : Int)))
    (HU : Hid (∀ a b, a < 16 → b < 16 → okG (setG D (goneL lost n2) a b) n2 P Q hasP hasQ = true → setG D (goneL lost n2) a b = res ∧ ok = true)) (HE : Hid (ok = true → ∃ a b, a < 16 ∧ b < 16 ∧ okG (setG D (goneL lost n2) a b) n2 P Q hasP hasQ = true)) :
    Calls Try.prog 32 #[.slice A n c, .slice A' n c'] w (RefP w res ok) := by
  have hll : (l.take n2).length = n2 := by rw [List.length_take, h.int_len]; omega
  have hml : (D.map (fun x : Nat => (x : Int))).length = (l.take n2).length := by rw [List.length_map, hDl, hll]
  have vnE : ∀ X : List Nat, vn .i64 X = vi .i64 (X.map (fun x : Nat => (x : Int))) := fun X => by unfold vn vi; rw [List.map_map]; rfl
  have hlt : ∀ i ∈ goneL lost n2, i < n2 := fun i hi => (goneL_lt i hi).1
  match hg : goneL lost n2, hG2, hDa, HU, HE, hlt with
  | [], _, hDa, HU, HE, _ =>
    refine ref_DoubleFill0 A A' n n2 c c' P Q hasP hasQ ok l lost D res w h h' hcap h3 h14 hn2 hn2' hg ⟨?_, trivial⟩ HD16 hp0 hq0 HZP' HZQ' HU HE
    show _ = vn .i64 D
    rw [vnE]
    congr 1
    exact List.ext_getElem? (fun k => (hDa k (by simp)).symm)
  | [i], _, hDa, HU, HE, hlt =>
    refine ref_DoubleFill1 A A' n n2 c c' P Q i hasP hasQ ok l lost D res w h h' hcap h3 h14 hn2 hn2' (hlt i (by simp)) hg ⟨trivial, ?_⟩ HD16 hp0 hq0 HZP' HZQ' HU HE
    rintro i' a rfl
    rw [vnE, List.map_set]
    congr 1
    exact set_alike hml.symm (fun k hk => (hDa k (by simpa using hk)).symm)
  | [i, j], _, hDa, HU, HE, hlt =>
    refine ref_DoubleFill2 A A' n n2 c c' P Q i j hasP hasQ ok l lost D res w h h' hcap h3 h14 hn2 hn2' (hlt i (by simp)) (hlt j (by simp)) hg ⟨trivial, ?_⟩ HD16 hp0 hq0 HZP' HZQ' HU HE
    intro i' a j' b e
    injection e with e1 e2
    injection e2 with e2
    subst e1 e2
    rw [vnE, List.map_set, List.map_set]
    congr 1
    refine set_alike (by rw [List.length_set, List.length_set, hml]) (fun k hk => ?_)
    rw [List.getElem?_set, List.getElem?_set, hml]
    by_cases e : i' = k
    · rw [if_pos e, if_pos e]
    · rw [if_neg e, if_neg e]
      refine (hDa k ?_).symm
      simp only [List.mem_cons, List.not_mem_nil, or_false, not_or]
      exact ⟨fun e2 => e e2.symm, hk⟩
theorem double_Fill_form (A A' : Option Addr) (n n' c c' : Nat) (w : World) (z : Int) (hn : n ≤ 4611686018427387904) (hn' : n' ≤ 4611686018427387904) (hz : Hid (n < 3 ∧ z = 3 ∨ n' ≠ n ∧ z = 3 ∨ 14 < n ∧ n' = n ∧ z = 1)) :
    Calls Try.prog 31 #[.slice A n c, .slice A' n' c'] w (RetB w (.tuple #[.slice none 0 0, .int .i64 z])) := by
  by_cases h1 : n < 3
  · obtain rfl : z = 3 := by rcases hz.out with h | h | h <;> omega
    have i1 : (n : Int) - 2 < 1 := by omega
    clear hz
    go_enter Try.func31, Try.ntmps31
    go_wp2
    go_ret2
    exact ⟨rfl, (Below.refl _ _).alloc (Nat.le_refl _) _⟩
  · have i1 : ¬ (n : Int) - 2 < 1 := by omega
    by_cases h2 : n' = n
    · subst h2
      obtain ⟨rfl, h3⟩ : z = 1 ∧ 14 < n' := by rcases hz.out with h | h | h <;> omega
      have i2 : ((n' : Int) != (n' : Int)) = false := by simp
      have i3 : (12 : Int) < (n' : Int) - 2 := by omega
      clear hz
      go_enter Try.func31, Try.ntmps31
      go_wp2
      go_ret2
      exact ⟨rfl, (Below.refl _ _).alloc (Nat.le_refl _) _⟩
    · obtain rfl : z = 3 := by rcases hz.out with h | h | h <;> omega
      have i2 : ((n' : Int) != (n : Int)) = true := by simp; omega
      clear hz
      go_enter Try.func31, Try.ntmps31
      go_wp2
      go_ret2
      exact ⟨rfl, (Below.refl _ _).alloc (Nat.le_refl _) _⟩
set_option maxHeartbeats 800000 in
theorem law_DoubleFills_form (A A' : Option Addr) (n n' c c' : Nat) (w : World) (z : Int) (hn : n ≤ 4611686018427387904) (hn' : n' ≤ 4611686018427387904) (hz : Hid (n < 3 ∧ z = 3 ∨ n' ≠ n ∧ z = 3 ∨ 14 < n ∧ n' = n ∧ z = 1)) :
    Calls Try.prog 10 #[.slice A n c, .slice A' n' c'] w (LawTrue w) := by
  have c1 := double_Fill_form A A' n n' c c' w z hn hn' hz
  by_cases h1 : n < 3
  · obtain rfl : z = 3 := by rcases hz.out with h | h | h <;> omega
    have i1 : (n : Int) < 3 := by omega
    clear hz
    by_cases h0 : 0 < n
    · have i0 : (0 : Int) < (n : Int) := by omega
      go_enter Try.func10, Try.ntmps10
      go_wp2_with (go_at_call 31; refine c1.mono ?_; clear c1; rintro e w1 ⟨rfl, hb1⟩)
      refine wp_loop_rounds 1 ?_
      rw [rounds_succ]
      go_wp2
      go_ret
      exact ⟨rfl, hb1⟩
    · have i0 : ¬ (0 : Int) < (n : Int) := by omega
      go_enter Try.func10, Try.ntmps10
      go_wp2_with (go_at_call 31; refine c1.mono ?_; clear c1; rintro e w1 ⟨rfl, hb1⟩)
      refine wp_loop_rounds 1 ?_
      rw [rounds_succ]
      go_wp2
      go_ret
      exact ⟨rfl, hb1⟩
  · have i1 : ¬ (n : Int) < 3 := by omega
    by_cases h2 : n' = n
    · subst h2
      obtain ⟨rfl, h3⟩ : z = 1 ∧ 14 < n' := by rcases hz.out with h | h | h <;> omega
      have i2 : ((n' : Int) != (n' : Int)) = false := by simp
      have i3 : (14 : Int) < (n' : Int) := by omega
      clear hz
      go_enter Try.func10, Try.ntmps10
      go_wp2_with (go_at_call 31; refine c1.mono ?_; clear c1; rintro e w1 ⟨rfl, hb1⟩)
      refine wp_loop_rounds 1 ?_
      rw [rounds_succ]
      go_wp2
      go_ret
      exact ⟨rfl, hb1⟩
    · obtain rfl : z = 3 := by rcases hz.out with h | h | h <;> omega
      have i2 : ((n' : Int) != (n : Int)) = true := by simp; omega
      clear hz
      go_enter Try.func10, Try.ntmps10
      go_wp2_with (go_at_call 31; refine c1.mono ?_; clear c1; rintro e w1 ⟨rfl, hb1⟩)
      refine wp_loop_rounds 1 ?_
      rw [rounds_succ]
      go_wp2
      go_ret
      exact ⟨rfl, hb1⟩
set_option maxHeartbeats 1600000 in
theorem law_DoubleFills_bad (A A' : Option Addr) (n c c' K : Nat) (l : List Int) (lost : List Bool) (w : World) (h : Reads w w.heap.size A n (vi .i64 l)) (h' : Reads w w.heap.size A' n (vb lost)) (h3 : 3 ≤ n) (h14 : n ≤ 14) (hK : K < n) (HB : Hid (badAt l lost K = true)) (HOK : Hid (∀ j, j < K → badAt l lost j = false)) :
    Calls Try.prog 10 #[.slice A n c, .slice A' n c'] w (LawTrue w) := by
  have c1 := double_Fill_bad A A' n c c' K l lost w h h' h3 h14 hK HB HOK
  have HL := Lib.hid h.int_len
  have HL' := Lib.hid h'.bool_len
  have i2 : ¬ (n : Int) < 3 := by omega
  have i3 : ¬ (14 : Int) < (n : Int) := by omega
  have i4 : ((n : Int) != (n : Int)) = false := by simp
  go_enter Try.func10, Try.ntmps10
  go_wp2_with (go_at_call 31; refine c1.mono ?_; clear c1; rintro e w1 ⟨rfl, hb1⟩)
  go_loop [7, 8, 9] (fun xv gv iv => ∃ k : Nat, (k ≤ K ∧ iv = .int .i64 k ∧ gv = .int .i64 ((goneL lost k).length : Int) ∧ xv = .int .i64 0) ∨ (k = K + 1 ∧ iv = .int .i64 k ∧ gv = .int .i64 ((goneL lost K).length : Int) ∧ xv = .int .i64 4)) (fun _ _ iv => n + 1 - (intOf iv).toNat)
  case atStart => exact ⟨0, .inl ⟨by omega, rfl, rfl, rfl⟩⟩
  case round =>
    obtain ⟨k, ⟨hk, rfl, rfl, rfl⟩ | ⟨rfl, rfl, rfl, rfl⟩⟩ := hrel
    ·
      by_cases hlt : k < K
      · have hkn : k < n := by omega
        obtain ⟨ad, x, rfl, hb, hx, hc0⟩ := h.int_at hkn
        obtain ⟨ad', y, rfl, hb', hy, hc0'⟩ := h'.bool_at hkn
        have hc : w1.cell? (ad.add k) = some (.int .i64 x) := (hb1.cell (by rw [block_of_add]; exact hb)).trans hc0
        have hc' : w1.cell? (ad'.add k) = some (.bool y) := (hb1.cell (by rw [block_of_add]; exact hb')).trans hc0'
        have hls : lsB lost k = y := by unfold lsB; rw [List.getD_eq_getElem?_getD, hy]; rfl
        have hGN := goneL_next lost k
        rw [hls] at hGN
        have hbad := HOK.out k hlt
        unfold badAt at hbad
        rw [hls] at hbad
        have hgl : (goneL lost k).length ≤ 14 := by unfold goneL; have := filt_len (lsB lost) k; omega
        have i1 : (k : Int) < (n : Int) := by omega
        cases y with
        | true =>
          have HGN : Hid ((goneL lost (k + 1)).length = (goneL lost k).length + 1) := by unfold Hid; rw [hGN]; simp
          clear hGN hx hy hls hbad
          generalize (goneL lost k).length = G at *
          go_wp2
          go_round
          case rel => exact ⟨k + 1, .inl ⟨by omega, by go_num, by rw [HGN.out]; go_num, rfl⟩⟩
          case measure => simp [intOf]; omega
        | false =>
          have HGN : Hid ((goneL lost (k + 1)).length = (goneL lost k).length) := by unfold Hid; rw [hGN]; simp
          have hin : badF x = false := by
            have : l.getD k 0 = x := by rw [List.getD_eq_getElem?_getD, hx]; rfl
            rw [this] at hbad; exact hbad
          obtain ⟨x1, x2⟩ := badF_ok hin
          have x3 : ¬ x < 0 := by omega
          have x4 : ¬ 15 < x := by omega
          clear hGN hx hy hls hbad hin
          generalize (goneL lost k).length = G at *
          go_wp2
          go_round
          case rel => exact ⟨k + 1, .inl ⟨by omega, by go_num, by rw [HGN.out], rfl⟩⟩
          case measure => simp [intOf]; omega
      · obtain rfl : K = k := by omega
        obtain ⟨ad, x, rfl, hb, hx, hc0⟩ := h.int_at hK
        obtain ⟨ad', y, rfl, hb', hy, hc0'⟩ := h'.bool_at hK
        have hc : w1.cell? (ad.add K) = some (.int .i64 x) := (hb1.cell (by rw [block_of_add]; exact hb)).trans hc0
        have hc' : w1.cell? (ad'.add K) = some (.bool y) := (hb1.cell (by rw [block_of_add]; exact hb')).trans hc0'
        have hls : lsB lost K = y := by unfold lsB; rw [List.getD_eq_getElem?_getD, hy]; rfl
        have hbad := HB.out
        unfold badAt at hbad
        rw [hls] at hbad
        have i1 : (K : Int) < (n : Int) := by omega
        cases y with
        | true => cases hbad
        | false =>
          have hin : badF x = true := by
            have : l.getD K 0 = x := by rw [List.getD_eq_getElem?_getD, hx]; rfl
            rw [this] at hbad; exact hbad
          unfold badF at hin
          clear hx hy hls hbad
          by_cases x1 : x < 0
          · clear hin
            generalize (goneL lost K).length = G at *
            go_wp2
            go_round
            case rel => exact ⟨K + 1, .inr ⟨rfl, by go_num, rfl, rfl⟩⟩
            case measure => simp [intOf]; omega
          · have x2 : 15 < x := by simp [x1] at hin; omega
            clear hin
            generalize (goneL lost K).length = G at *
            go_wp2
            go_round
            case rel => exact ⟨K + 1, .inr ⟨rfl, by go_num, rfl, rfl⟩⟩
            case measure => simp [intOf]; omega
    · have hkn : K + 1 ≤ n := by omega
      generalize (goneL lost K).length = G at *
      by_cases hlt : K + 1 < n
      · have i1 : ((K + 1 : Nat) : Int) < (n : Int) := by omega
        go_wp2
        go_ret
        exact ⟨rfl, hb1⟩
      · have i1 : ¬ ((K + 1 : Nat) : Int) < (n : Int) := by omega
        go_wp2
        go_ret
        exact ⟨rfl, hb1⟩
set_option maxHeartbeats 1600000 in
theorem law_DoubleFills_many (A A' : Option Addr) (n c c' : Nat) (l : List Int) (lost : List Bool) (w : World) (h : Reads w w.heap.size A n (vi .i64 l)) (h' : Reads w w.heap.size A' n (vb lost)) (h3 : 3 ≤ n) (h14 : n ≤ 14) (HOK : Hid (∀ j, j < n → badAt l lost j = false)) (hG : Hid (2 < (goneL lost n).length)) :
    Calls Try.prog 10 #[.slice A n c, .slice A' n c'] w (LawTrue w) := by
  have c1 := double_Fill_many A A' n c c' l lost w h h' h3 h14 HOK hG
  obtain ⟨K, hKn⟩ : ∃ K, K = n := ⟨_, rfl⟩
  have hK : K ≤ n := by omega
  have hK2 : n ≤ K := by omega
  rw [← hKn] at HOK
  clear hKn
  have HL := Lib.hid h.int_len
  have HL' := Lib.hid h'.bool_len
  have i2 : ¬ (n : Int) < 3 := by omega
  have i3 : ¬ (14 : Int) < (n : Int) := by omega
  have i4 : ((n : Int) != (n : Int)) = false := by simp
  go_enter Try.func10, Try.ntmps10
  go_wp2_with (go_at_call 31; refine c1.mono ?_; clear c1; rintro e w1 ⟨rfl, hb1⟩)
  go_loop [7, 8, 9] (fun xv gv iv => ∃ k : Nat, k ≤ K ∧ iv = .int .i64 k ∧ gv = .int .i64 ((goneL lost k).length : Int) ∧ xv = .int .i64 0) (fun _ _ iv => n - (intOf iv).toNat)
  case atStart => exact ⟨0, by omega, rfl, rfl, rfl⟩
  case round =>
    obtain ⟨k, hk, rfl, rfl, rfl⟩ := hrel
    by_cases hlt : k < K
    · have hkn : k < n := by omega
      obtain ⟨ad, x, rfl, hb, hx, hc0⟩ := h.int_at hkn
      obtain ⟨ad', y, rfl, hb', hy, hc0'⟩ := h'.bool_at hkn
      have hc : w1.cell? (ad.add k) = some (.int .i64 x) := (hb1.cell (by rw [block_of_add]; exact hb)).trans hc0
      have hc' : w1.cell? (ad'.add k) = some (.bool y) := (hb1.cell (by rw [block_of_add]; exact hb')).trans hc0'
      have hls : lsB lost k = y := by unfold lsB; rw [List.getD_eq_getElem?_getD, hy]; rfl
      have hGN := goneL_next lost k
      rw [hls] at hGN
      have hbad := HOK.out k hlt
      unfold badAt at hbad
      rw [hls] at hbad
      have hgl : (goneL lost k).length ≤ 14 := by unfold goneL; have := filt_len (lsB lost) k; omega
      have i1 : (k : Int) < (n : Int) := by omega
      cases y with
      | true =>
        have HGN : Hid ((goneL lost (k + 1)).length = (goneL lost k).length + 1) := by unfold Hid; rw [hGN]; simp
        clear hGN hx hy hls hbad
        generalize (goneL lost k).length = G at *
        go_wp2
        go_round
        case rel => exact ⟨k + 1, by omega, by go_num, by rw [HGN.out]; go_num, rfl⟩
        case measure => simp [intOf]; omega
      | false =>
        have HGN : Hid ((goneL lost (k + 1)).length = (goneL lost k).length) := by unfold Hid; rw [hGN]; simp
        have hin : badF x = false := by
          have : l.getD k 0 = x := by rw [List.getD_eq_getElem?_getD, hx]; rfl
          rw [this] at hbad; exact hbad
        obtain ⟨x1, x2⟩ := badF_ok hin
        have x3 : ¬ x < 0 := by omega
        have x4 : ¬ 15 < x := by omega
        clear hGN hx hy hls hbad hin
        generalize (goneL lost k).length = G at *
        go_wp2
        go_round
        case rel => exact ⟨k + 1, by omega, by go_num, by rw [HGN.out], rfl⟩
        case measure => simp [intOf]; omega
    · obtain rfl : k = n := by omega
      have hG2 := hG.out
      have hgl : (goneL lost k).length ≤ 14 := by unfold goneL; have := filt_len (lsB lost) k; omega
      generalize (goneL lost k).length = G at *
      have j1 : (2 : Int) < (G : Int) := by omega
      go_wp2
      go_ret
      exact ⟨rfl, hb1⟩
set_option maxHeartbeats 1600000 in
theorem law_DoubleFills_ok (A A' : Option Addr) (n c c' : Nat) (ok : Bool) (l : List Int) (lost : List Bool) (res : List Nat) (w : World) (h : Reads w w.heap.size A n (vi .i64 l)) (h' : Reads w w.heap.size A' n (vb lost)) (h3 : 3 ≤ n) (h14 : n ≤ 14) (HOK : Hid (∀ j, j < n → badAt l lost j = false)) (hG : Hid ((goneL lost n).length ≤ 2)) (hrl : Hid (res.length ≤ 14))
    (c1 : Calls Try.prog 31 #[.slice A n c, .slice A' n c'] w (FillP w res ok)) (c2 : ∀ w1, Below w.heap.size w w1 → Calls Try.prog 32 #[.slice A n c, .slice A' n c'] w1 (RefP w1 res ok)) :
    Calls Try.prog 10 #[.slice A n c, .slice A' n c'] w (LawTrue w) := by
  obtain ⟨K, hKn⟩ : ∃ K, K = n := ⟨_, rfl⟩
  have hK : K ≤ n := by omega
  have hK2 : n ≤ K := by omega
  rw [← hKn] at HOK
  clear hKn
  have HL := Lib.hid h.int_len
  have HL' := Lib.hid h'.bool_len
  have i2 : ¬ (n : Int) < 3 := by omega
  have i3 : ¬ (14 : Int) < (n : Int) := by omega
  have i4 : ((n : Int) != (n : Int)) = false := by simp
  have c3 := fun (A1 A2 : Option Addr) (n1 n2 k1 k2 : Nat) (w2 : World) (g1 : Reads w2 w2.heap.size A1 n1 (vn .i64 res)) (g2 : Reads w2 w2.heap.size A2 n2 (vn .i64 res)) => ref_Ints A1 A2 n1 n2 k1 k2 (res.map (fun x : Nat => (x : Int))) (res.map (fun x : Nat => (x : Int))) true w2 (by have e : vi .i64 (res.map (fun x : Nat => (x : Int))) = vn .i64 res := (by unfold vn vi; rw [List.map_map]; rfl); rw [e]; exact g1) (by have e : vi .i64 (res.map (fun x : Nat => (x : Int))) = vn .i64 res := (by unfold vn vi; rw [List.map_map]; rfl); rw [e]; exact g2) (by have := g1.nat_len; have := hrl.out; unfold maxLen; omega) (by simp [Hid])
  cases ok with
  | true =>
    go_enter Try.func10, Try.ntmps10
    go_wp2_with (go_at_call 31; refine c1.mono ?_; clear c1; rintro e w1 ⟨A1, m1, k1, rfl, hr1, hb1⟩)
    go_loop [7, 8, 9] (fun xv gv iv => ∃ k : Nat, k ≤ K ∧ iv = .int .i64 k ∧ gv = .int .i64 ((goneL lost k).length : Int) ∧ xv = .int .i64 0) (fun _ _ iv => n - (intOf iv).toNat)
    case atStart => exact ⟨0, by omega, rfl, rfl, rfl⟩
    case round =>
      obtain ⟨k, hk, rfl, rfl, rfl⟩ := hrel
      by_cases hlt : k < K
      · have hkn : k < n := by omega
        obtain ⟨ad, x, rfl, hb, hx, hc0⟩ := h.int_at hkn
        obtain ⟨ad', y, rfl, hb', hy, hc0'⟩ := h'.bool_at hkn
        have hc : w1.cell? (ad.add k) = some (.int .i64 x) := (hb1.cell (by rw [block_of_add]; exact hb)).trans hc0
        have hc' : w1.cell? (ad'.add k) = some (.bool y) := (hb1.cell (by rw [block_of_add]; exact hb')).trans hc0'
        have hls : lsB lost k = y := by unfold lsB; rw [List.getD_eq_getElem?_getD, hy]; rfl
        have hGN := goneL_next lost k
        rw [hls] at hGN
        have hbad := HOK.out k hlt
        unfold badAt at hbad
        rw [hls] at hbad
        have hgl : (goneL lost k).length ≤ 14 := by unfold goneL; have := filt_len (lsB lost) k; omega
        have i1 : (k : Int) < (n : Int) := by omega
        cases y with
        | true =>
          have HGN : Hid ((goneL lost (k + 1)).length = (goneL lost k).length + 1) := by unfold Hid; rw [hGN]; simp
          clear hGN hx hy hls hbad
          generalize (goneL lost k).length = G at *
          go_wp2
          go_round
          case rel => exact ⟨k + 1, by omega, by go_num, by rw [HGN.out]; go_num, rfl⟩
          case measure => simp [intOf]; omega
        | false =>
          have HGN : Hid ((goneL lost (k + 1)).length = (goneL lost k).length) := by unfold Hid; rw [hGN]; simp
          have hin : badF x = false := by
            have : l.getD k 0 = x := by rw [List.getD_eq_getElem?_getD, hx]; rfl
            rw [this] at hbad; exact hbad
          obtain ⟨x1, x2⟩ := badF_ok hin
          have x3 : ¬ x < 0 := by omega
          have x4 : ¬ 15 < x := by omega
          clear hGN hx hy hls hbad hin
          generalize (goneL lost k).length = G at *
          go_wp2
          go_round
          case rel => exact ⟨k + 1, by omega, by go_num, by rw [HGN.out], rfl⟩
          case measure => simp [intOf]; omega
      · obtain rfl : k = n := by omega
        have hG2 := hG.out
        generalize (goneL lost k).length = G at *
        have j1 : ¬ (2 : Int) < (G : Int) := by omega
        have c2 := c2 w1 hb1
        go_wp2_with (first | (go_at_call 32; refine c2.mono ?_; clear c2; rintro e w2 ⟨A2, m2, k2, rfl, hr2, hb2⟩; have c3 := c3 A1 A2 m1 m2 k1 k2 w2 ((hr1.below hb2).more hb2.size) hr2) | (go_at_call 29; refine c3.mono ?_; clear c3; rintro e w3 ⟨rfl, m3, rfl⟩))
        go_ret
        exact ⟨rfl, below_drewN (hb1.trans (hb2.mono hb1.size)) m3⟩
  | false =>
    go_enter Try.func10, Try.ntmps10
    go_wp2_with (go_at_call 31; refine c1.mono ?_; clear c1; rintro e w1 ⟨rfl, hb1⟩)
    go_loop [7, 8, 9] (fun xv gv iv => ∃ k : Nat, k ≤ K ∧ iv = .int .i64 k ∧ gv = .int .i64 ((goneL lost k).length : Int) ∧ xv = .int .i64 0) (fun _ _ iv => n - (intOf iv).toNat)
    case atStart => exact ⟨0, by omega, rfl, rfl, rfl⟩
    case round =>
      obtain ⟨k, hk, rfl, rfl, rfl⟩ := hrel
      by_cases hlt : k < K
      · have hkn : k < n := by omega
        obtain ⟨ad, x, rfl, hb, hx, hc0⟩ := h.int_at hkn
        obtain ⟨ad', y, rfl, hb', hy, hc0'⟩ := h'.bool_at hkn
        have hc : w1.cell? (ad.add k) = some (.int .i64 x) := (hb1.cell (by rw [block_of_add]; exact hb)).trans hc0
        have hc' : w1.cell? (ad'.add k) = some (.bool y) := (hb1.cell (by rw [block_of_add]; exact hb')).trans hc0'
        have hls : lsB lost k = y := by unfold lsB; rw [List.getD_eq_getElem?_getD, hy]; rfl
        have hGN := goneL_next lost k
        rw [hls] at hGN
        have hbad := HOK.out k hlt
        unfold badAt at hbad
        rw [hls] at hbad
        have hgl : (goneL lost k).length ≤ 14 := by unfold goneL; have := filt_len (lsB lost) k; omega
        have i1 : (k : Int) < (n : Int) := by omega
        cases y with
        | true =>
          have HGN : Hid ((goneL lost (k + 1)).length = (goneL lost k).length + 1) := by unfold Hid; rw [hGN]; simp
          clear hGN hx hy hls hbad
          generalize (goneL lost k).length = G at *
          go_wp2
          go_round
          case rel => exact ⟨k + 1, by omega, by go_num, by rw [HGN.out]; go_num, rfl⟩
          case measure => simp [intOf]; omega
        | false =>
          have HGN : Hid ((goneL lost (k + 1)).length = (goneL lost k).length) := by unfold Hid; rw [hGN]; simp
          have hin : badF x = false := by
            have : l.getD k 0 = x := by rw [List.getD_eq_getElem?_getD, hx]; rfl
            rw [this] at hbad; exact hbad
          obtain ⟨x1, x2⟩ := badF_ok hin
          have x3 : ¬ x < 0 := by omega
          have x4 : ¬ 15 < x := by omega
          clear hGN hx hy hls hbad hin
          generalize (goneL lost k).length = G at *
          go_wp2
          go_round
          case rel => exact ⟨k + 1, by omega, by go_num, by rw [HGN.out], rfl⟩
          case measure => simp [intOf]; omega
      · obtain rfl : k = n := by omega
        have hG2 := hG.out
        generalize (goneL lost k).length = G at *
        have j1 : ¬ (2 : Int) < (G : Int) := by omega
        have c2 := c2 w1 hb1
        go_wp2_with (go_at_call 32; refine c2.mono ?_; clear c2; rintro e w2 ⟨rfl, hb2⟩)
        go_ret
        exact ⟨rfl, hb1.trans (hb2.mono hb1.size)⟩
theorem DoubleFills_walk (A : Option Addr) (n c : Nat) (l : List Int) (A' : Option Addr) (n' c' : Nat) (lost : List Bool) (w : World) (h : Reads w w.heap.size A n (vi .i64 l)) (_ : ∀ z ∈ l, (Lit.int .i64 z).wf = true) (hm : n * 8 ≤ reachBytes) (hcap : n ≤ c) (h' : Reads w w.heap.size A' n' (vb lost)) (hm' : n' * 1 ≤ reachBytes) (_ : n' ≤ c') :
    Calls Try.prog 10 #[.slice A n c, .slice A' n' c'] w (LawTrue w) := by
  have hn : n ≤ 4611686018427387904 := by have := reachBytes_lt; omega
  have hn' : n' ≤ 4611686018427387904 := by have := reachBytes_lt; omega
  by_cases h3 : n < 3
  · exact law_DoubleFills_form A A' n n' c c' w 3 hn hn' (.inl ⟨h3, rfl⟩)
  by_cases h2 : n' ≠ n
  · exact law_DoubleFills_form A A' n n' c c' w 3 hn hn' (.inr (.inl ⟨h2, rfl⟩))
  obtain rfl : n' = n := by omega
  by_cases h14 : 14 < n'
  · exact law_DoubleFills_form A A' n' n' c c' w 1 hn hn' (.inr (.inr ⟨h14, rfl, rfl⟩))
  by_cases hb : (List.range n').any (badAt l lost) = true
  · obtain ⟨K, h5, h6, h7⟩ := first_bad hb
    exact law_DoubleFills_bad A A' n' c c' K l lost w h h' (by omega) (by omega) h5 h6 h7
  have hb' : (List.range n').any (badAt l lost) = false := by simpa using hb
  have hok : ∀ j, j < n' → badAt l lost j = false := fun j hj => by
    have := List.any_eq_false.1 hb' j (List.mem_range.2 hj)
    simpa using this
  by_cases hg : 2 < (goneL lost n').length
  · exact law_DoubleFills_many A A' n' c c' l lost w h h' (by omega) (by omega) hok hg
  obtain ⟨n2, hn2⟩ : ∃ n2, n' = n2 + 2 := ⟨n' - 2, by omega⟩
  have hll := h.int_len
  have hll' := h'.bool_len
  obtain ⟨D, e1, e2, e3, e4⟩ := zeroL_nats hll hb'
  have hsp := goneL_split lost n2
  rw [← hn2] at hsp
  have hglen := congrArg List.length hsp
  rw [List.length_append] at hglen
  obtain ⟨hasP, hp0⟩ : ∃ b, lost[n2]? = some (!b) := ⟨!lost[n2], by rw [List.getElem?_eq_getElem (by omega)]; simp⟩
  obtain ⟨hasQ, hq0⟩ : ∃ b, lost[n2 + 1]? = some (!b) := ⟨!lost[n2 + 1], by rw [List.getElem?_eq_getElem (by omega)]; simp⟩
  obtain ⟨P, hP⟩ : ∃ P, D[n2]? = some P := ⟨_, List.getElem?_eq_getElem (by omega)⟩
  obtain ⟨Q, hQ⟩ : ∃ Q, D[n2 + 1]? = some Q := ⟨_, List.getElem?_eq_getElem (by omega)⟩
  have lsP : lsB lost n2 = !hasP := by unfold lsB; rw [List.getD_eq_getElem?_getD, hp0]; rfl
  have lsQ : lsB lost (n2 + 1) = !hasQ := by unfold lsB; rw [List.getD_eq_getElem?_getD, hq0]; rfl
  have keep : ∀ (i x : Nat), D[i]? = some x → lsB lost i = false → l[i]? = some (x : Int) := by
    intro i x hx hl
    have hi : i < l.length := by have := (List.getElem?_eq_some_iff.1 hx).1; omega
    have h1 := zeroL_at (lost := lost) (k := n') (List.getElem?_eq_getElem hi)
    rw [hl, Bool.and_false, if_neg (by simp), e1, List.getElem?_map, hx] at h1
    rw [List.getElem?_eq_getElem hi]
    simpa using h1.symm
  have hD16 : ∀ x ∈ D.take n2, x < 16 := fun x hx => e3 x (List.mem_of_mem_take hx)
  have hDl : (D.take n2).length = n2 := by rw [List.length_take]; omega
  have hP16 := e3 P (mem_at hP)
  have hQ16 := e3 Q (mem_at hQ)
  have hpX := xor_lt16 (dbA_lt e3 n2) hP16
  have hqX := xor_lt16 (dbB_lt e3 n2) hQ16
  have hdA := dbA_take D n2 n2 (Nat.le_refl _)
  have hdB := dbB_take D n2 n2 (Nat.le_refl _)
  have hz : ∀ i ∈ goneL lost n2, i < n2 ∧ (D.take n2).getD i 0 = 0 := by
    intro i hi
    have h1 := goneL_lt i hi
    refine ⟨h1.1, ?_⟩
    have h2 := e4 i (by rw [hsp]; exact List.mem_append_left _ hi)
    rw [List.getD_eq_getElem?_getD] at h2 ⊢
    rw [List.getElem?_take_of_lt h1.1]; exact h2
  have hsolE : solG D (goneL lost n2) (dbA D n2 ^^^ P) (dbB D n2 ^^^ Q) hasP = solG (D.take n2) (goneL lost n2) (dbA (D.take n2) n2 ^^^ P) (dbB (D.take n2) n2 ^^^ Q) hasP := by
    rw [hdA, hdB]
    generalize goneL lost n2 = gg
    match gg with
    | [] => rfl
    | [i] => rfl
    | i :: j :: _ => rfl
  have huq := fun a b (ha : a < 16) (hb : b < 16) (hh : okG (setG (D.take n2) (goneL lost n2) a b) n2 P Q hasP hasQ = true) => setG_uniq (n := n2) hD16 hDl (by omega) hP16 hQ16 ha hb hz (goneL_nodup _ _) (by omega) (fun h1 => by
      cases hasP with
      | true => exact .inl rfl
      | false =>
        cases hasQ with
        | true => exact .inr rfl
        | false => rw [lsP, lsQ] at hglen; simp at hglen; omega) (fun h1 => by
      cases hasP with
      | false => rw [lsP] at hglen; simp at hglen; omega
      | true =>
        cases hasQ with
        | true => exact ⟨rfl, rfl⟩
        | false => rw [lsQ] at hglen; simp at hglen; omega) hh
  rw [hdA, hdB] at huq
  obtain ⟨res, hres⟩ : ∃ res, res = setG D (goneL lost n2) (solG D (goneL lost n2) (dbA D n2 ^^^ P) (dbB D n2 ^^^ Q) hasP).1 (solG D (goneL lost n2) (dbA D n2 ^^^ P) (dbB D n2 ^^^ Q) hasP).2 := ⟨_, rfl⟩
  obtain ⟨ok, hokE⟩ : ∃ ok, okG res n2 P Q hasP hasQ = ok := ⟨_, rfl⟩
  have hresT : res.take n2 = setG (D.take n2) (goneL lost n2) (solG (D.take n2) (goneL lost n2) (dbA D n2 ^^^ P) (dbB D n2 ^^^ Q) hasP).1 (solG (D.take n2) (goneL lost n2) (dbA D n2 ^^^ P) (dbB D n2 ^^^ Q) hasP).2 := by
    rw [hres, setG_take, hsolE, hdA, hdB]
  have hokT : okG (res.take n2) n2 P Q hasP hasQ = ok := by
    rw [← hokE]; unfold okG; rw [dbA_take res n2 n2 (Nat.le_refl _), dbB_take res n2 n2 (Nat.le_refl _)]
  have hsl := sol_lt (d := D.take n2) (gone := goneL lost n2) (hasP := hasP) hpX hqX
  refine law_DoubleFills_ok A A' n' c c' ok l lost (res.take n2) w h h' (by omega) (by omega) hok (by unfold Hid; omega) (by unfold Hid; rw [List.length_take]; omega) ?_ ?_
  · exact double_Fill_ok A A' n' n2 c c' P Q hasP hasQ ok l lost D res w h h' (by omega) (by omega) (by omega) (by omega) hok (by unfold Hid; omega) ⟨by rw [e1]; unfold vi vn; rw [List.map_map]; rfl, e2, e3⟩ hP hQ hp0 hq0 hres hokE
  · intro w1 hb1
    refine ref_DoubleFill A A' n' n2 c c' P Q hasP hasQ ok l lost (D.take n2) (res.take n2) w1 ((h.below hb1).more hb1.size) ((h'.below hb1).more hb1.size) hcap (by omega) (by omega) (by omega) (by omega) (by omega) hDl ?_ hD16 hp0 hq0 (fun hh => keep n2 P hP (by rw [lsP, hh]; rfl)) (fun hh => keep (n2 + 1) Q hQ (by rw [lsQ, hh]; rfl)) ?_ ?_
    · intro k hk
      rw [List.getElem?_map]
      rcases Nat.lt_or_ge k n2 with hkn | hkn
      · rw [List.getElem?_take_of_lt hkn, List.getElem?_take_of_lt hkn]
        have hx : D[k]? = some D[k] := List.getElem?_eq_getElem (by omega)
        have hls : lsB lost k = false := by
          cases h9 : lsB lost k with
          | false => rfl
          | true => exact absurd (List.mem_filter.2 ⟨List.mem_range.2 hkn, h9⟩) hk
        rw [keep k _ hx hls, hx]; rfl
      · rw [List.getElem?_eq_none (by rw [hDl]; exact hkn), List.getElem?_eq_none (by rw [List.length_take]; omega)]; rfl
    · intro a b ha hb hh
      have h1 := huq a b ha hb hh
      rw [← hresT] at h1
      refine ⟨h1, ?_⟩
      rw [← hokT, ← h1]; exact hh
    · intro hh
      refine ⟨_, _, hsl.1, hsl.2, ?_⟩
      rw [← hresT, hokT]; exact hh
end Go.Proofs.Ythbmnaonnebnhaa

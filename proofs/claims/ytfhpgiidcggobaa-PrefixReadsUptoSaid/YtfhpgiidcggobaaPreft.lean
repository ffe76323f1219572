import Derived.Test.YtfhpgiidcggobaaPrefix
import Derived.Test.YtfhpgiidcggobaaBools
import Derived.Test.YtfhpgiidcggobaaEqBools
import Derived.Test.YtfhpgiidcggobaaQuiet
set_option linter.unusedVariables false
namespace Go.Proofs.Ytfhpgiidcggobaa
open Go.RowKit

/-- is a the beginning of b? -/
def begB (a b : List Bool) : Bool := decide (a.length ≤ b.length) && decide (a = b.take a.length)
theorem begB_long {a b : List Bool} (h : b.length < a.length) : begB a b = false := by simp [begB]; omega
theorem begB_eq {a b : List Bool} (h : a.length ≤ b.length) : begB a b = decide (a = b.take a.length) := by simp [begB, h]
theorem Reads.takeBo {w : World} {B n k : Nat} {A : Option Addr} {l : List Bool} (h : Reads w B A n (vb l)) (hk : k ≤ n) : Reads w B A k (vb (l.take k)) := by
  have := h.take hk
  rwa [← List.map_take] at this
set_option maxHeartbeats 400000 in
theorem prefix_Begins (A A' : Option Addr) (n n' c c' : Nat) (a b : List Bool) (w : World) {B B' : Nat} (h : Reads w B A n (vb a)) (h' : Reads w B' A' n' (vb b)) (hn : n ≤ maxLen) (hn' : n' ≤ maxLen) (hc : n' ≤ c') :
    Calls Try.prog 63 #[.slice A n c, .slice A' n' c'] w (RetQ w (.bool (begB a b))) := by
  have H := h.bool_len
  have H' := h'.bool_len
  by_cases hle : n ≤ n'
  · have HB : Hid (decide (a = b.take n) = begB a b) := by unfold Hid; rw [begB_eq (by omega), H]
    have hi : (n : Int) ≤ (n' : Int) := by omega
    rcases A' with _ | ad
    · have h0 : n' = 0 := by
        rcases Nat.eq_zero_or_pos n' with h0 | h0
        · exact h0
        · obtain ⟨ad, e, _⟩ := h'.cells h0; cases e
      subst h0
      have h0 : n = 0 := by omega
      subst h0
      have ce := fun (q : Nat) => equal_bools A none 0 0 c q a (b.take 0) (begB a b) w h (h'.takeBo (Nat.le_refl _)) (by unfold maxLen; omega) HB
      clear H H' hle hi hn hn' hc
      go_enter Try.func63, Try.ntmps63
      go_wp2_with (go_at_call 74; refine (ce _).mono ?_; rintro e w' ⟨rfl, m, rfl⟩)
      go_ret
      exact ⟨rfl, m, rfl⟩
    · have hnc : n ≤ c' := by omega
      have ce := fun (q : Nat) => equal_bools A (some ad) n n c q a (b.take n) (begB a b) w h (h'.takeBo hle) hn HB
      unfold maxLen at hn hn'
      clear H H' hle
      go_enter Try.func63, Try.ntmps63
      go_wp2_with (go_at_call 74; refine (ce _).mono ?_; rintro e w' ⟨rfl, m, rfl⟩)
      go_ret
      exact ⟨rfl, m, rfl⟩
  · have HB : Hid (begB a b = false) := begB_long (by omega)
    have hi : ¬ (n : Int) ≤ (n' : Int) := by omega
    go_enter Try.func63, Try.ntmps63
    go_wp2
    go_ret
    exact ⟨ret_b HB.out.symm, 0, rfl⟩
set_option maxHeartbeats 400000 in
theorem ref_Begins (A A' : Option Addr) (n n' c c' : Nat) (a b : List Bool) (w : World) {B B' : Nat} (h : Reads w B A n (vb a)) (h' : Reads w B' A' n' (vb b)) (hn : n ≤ maxLen) (hn' : n' ≤ maxLen) (hc : n' ≤ c') :
    Calls Try.prog 50 #[.slice A n c, .slice A' n' c'] w (RetQ w (.bool (begB a b))) := by
  have H := h.bool_len
  have H' := h'.bool_len
  by_cases hle : n ≤ n'
  · have HB : Hid (decide (a = b.take n) = begB a b) := by unfold Hid; rw [begB_eq (by omega), H]
    have hi : (n : Int) ≤ (n' : Int) := by omega
    rcases A' with _ | ad
    · have h0 : n' = 0 := by
        rcases Nat.eq_zero_or_pos n' with h0 | h0
        · exact h0
        · obtain ⟨ad, e, _⟩ := h'.cells h0; cases e
      subst h0
      have h0 : n = 0 := by omega
      subst h0
      have ce := fun (q : Nat) => ref_Bools A none 0 0 c q a (b.take 0) (begB a b) w h (h'.takeBo (Nat.le_refl _)) (by unfold maxLen; omega) HB
      clear H H' hle hi hn hn' hc
      go_enter Try.func50, Try.ntmps50
      go_wp2_with (go_at_call 17; refine (ce _).mono ?_; rintro e w' ⟨rfl, m, rfl⟩)
      go_ret
      exact ⟨rfl, m, rfl⟩
    · have hnc : n ≤ c' := by omega
      have ce := fun (q : Nat) => ref_Bools A (some ad) n n c q a (b.take n) (begB a b) w h (h'.takeBo hle) hn HB
      unfold maxLen at hn hn'
      clear H H' hle
      go_enter Try.func50, Try.ntmps50
      go_wp2_with (go_at_call 17; refine (ce _).mono ?_; rintro e w' ⟨rfl, m, rfl⟩)
      go_ret
      exact ⟨rfl, m, rfl⟩
  · have HB : Hid (begB a b = false) := begB_long (by omega)
    have hi : ¬ (n : Int) ≤ (n' : Int) := by omega
    go_enter Try.func50, Try.ntmps50
    go_wp2
    go_ret
    exact ⟨ret_b HB.out.symm, 0, rfl⟩

theorem Reads2c.row {w : World} {B : Nat} {A : Option Addr} {n : Nat} {ls : List (List Bool)} (h : Reads2c w B A n ls) {k : Nat} (hk : k < n) :
    ∃ ad l A' n' c', A = some ad ∧ ls[k]? = some l ∧ w.cell? (ad.add k) = some (.slice A' n' c') ∧ Reads w B A' n' (vb l) ∧ n' ≤ maxLen ∧ l.length = n' ∧ n' ≤ c' := by
  obtain ⟨vs, hv, hl, he⟩ := h
  obtain ⟨ad, u, rfl, hb, hx, hc⟩ := hv.at_ hk
  have hk' : k < ls.length := by rw [← hl, hv.len]; exact hk
  obtain ⟨A', n', c', e, h2, h3, h4⟩ := he k _ (List.getElem?_eq_getElem hk')
  rw [hx] at e
  injection e with e
  subst e
  exact ⟨ad, ls[k], A', n', c', rfl, List.getElem?_eq_getElem hk', hc, h2, h3, h2.bool_len, h4⟩
theorem Reads2c.drewN {w : World} {B : Nat} {A : Option Addr} {n : Nat} {ls : List (List Bool)} (h : Reads2c w B A n ls) (m : Nat) : Reads2c (w.drewN m) B A n ls := by
  obtain ⟨vs, hv, hl, he⟩ := h
  exact ⟨vs, hv.drewN m, hl, fun k l hk => by obtain ⟨A', n', c', e, h2, h3⟩ := he k l hk; exact ⟨A', n', c', e, h2.drewN m, h3⟩⟩
theorem Reads2c.below {w w' : World} {B : Nat} {A : Option Addr} {n : Nat} {ls : List (List Bool)} (h : Reads2c w B A n ls) (hb : Below B w w') : Reads2c w' B A n ls := by
  obtain ⟨vs, hv, hl, he⟩ := h
  exact ⟨vs, hv.below hb, hl, fun k l hk => by obtain ⟨A', n', c', e, h2, h3⟩ := he k l hk; exact ⟨A', n', c', e, h2.below hb, h3⟩⟩
theorem Reads2c.more {w : World} {B B' : Nat} {A : Option Addr} {n : Nat} {ls : List (List Bool)} (h : Reads2c w B A n ls) (hB : B ≤ B') : Reads2c w B' A n ls := by
  obtain ⟨vs, hv, hl, he⟩ := h
  exact ⟨vs, hv.more hB, hl, fun k l hk => by obtain ⟨A', n', c', e, h2, h3⟩ := he k l hk; exact ⟨A', n', c', e, h2.more hB, h3⟩⟩

/-- does the i-th word begin the j-th, another one? -/
def hitP (ls : List (List Bool)) (i j : Nat) : Bool := (i != j) && begB (ls.getD i []) (ls.getD j [])
def freeB (ls : List (List Bool)) (n : Nat) : Bool := (List.range n).all fun i => (List.range n).all fun j => !hitP ls i j
theorem freeB_true {ls : List (List Bool)} {n : Nat} (h : ∀ i, i < n → ∀ j, j < n → hitP ls i j = false) : freeB ls n = true := by
  unfold freeB
  rw [List.all_eq_true]
  intro i hi
  rw [List.all_eq_true]
  intro j hj
  rw [h i (List.mem_range.1 hi) j (List.mem_range.1 hj)]; rfl
theorem freeB_false {ls : List (List Bool)} {n i j : Nat} (hi : i < n) (hj : j < n) (h : hitP ls i j = true) : freeB ls n = false := by
  unfold freeB
  rw [List.all_eq_false]
  refine ⟨i, List.mem_range.2 hi, ?_⟩
  rw [Bool.not_eq_true, List.all_eq_false]
  exact ⟨j, List.mem_range.2 hj, by rw [h]; simp⟩
theorem hit_next {ls : List (List Bool)} {i j : Nat} (h : ∀ j', j' < j → hitP ls i j' = false) (h2 : hitP ls i j = false) : ∀ j', j' < j + 1 → hitP ls i j' = false := fun j' hj => by
  rcases Nat.lt_or_ge j' j with h3 | h3
  · exact h j' h3
  · obtain rfl : j' = j := by omega
    exact h2
theorem hit_row {ls : List (List Bool)} {i n : Nat} (h : ∀ i', i' < i → ∀ j, j < n → hitP ls i' j = false) (h2 : ∀ j, j < n → hitP ls i j = false) : ∀ i', i' < i + 1 → ∀ j, j < n → hitP ls i' j = false := fun i' hi j hj => by
  rcases Nat.lt_or_ge i' i with h3 | h3
  · exact h i' h3 j hj
  · obtain rfl : i' = i := by omega
    exact h2 j hj
set_option maxHeartbeats 800000 in
theorem prefix_free (A : Option Addr) (n c : Nat) (ls : List (List Bool)) (w : World) (h : Reads2c w w.heap.size A n ls) (hn : n ≤ maxLen) :
    Calls Try.prog 49 #[.slice A n c] w (RetQ w (.bool (freeB ls n))) := by
  unfold maxLen at hn
  go_enter Try.func49, Try.ntmps49
  go_wp2
  go_loopw [9, 3, 4, 5, 6] (fun iv a1 a2 a3 a4 wr => ∃ i m : Nat, i ≤ n ∧ iv = .int .i64 i ∧ wr = w.drewN m ∧ Hid (∀ i', i' < i → ∀ j, j < n → hitP ls i' j = false)) (fun iv _ _ _ _ _ => n - (intOf iv).toNat)
  case atStart => exact ⟨0, 0, by omega, rfl, rfl, fun i' hi => absurd hi (by omega)⟩
  case round =>
    obtain ⟨i, m, hi, rfl, rfl, hall⟩ := hrel
    by_cases hlt : i < n
    · obtain ⟨ad, a, A1, n1, c1, e, hx, hc1, hr1, hm1, hl1, hk1⟩ := (h.drewN m).row hlt
      subst e
      have HX := Lib.hid hx
      clear hx hl1
      unfold maxLen at hm1
      go_wp2
      go_loopw [16, 5, 6] (fun jv a3 a4 wi => ∃ j q : Nat, j ≤ n ∧ jv = .int .i64 j ∧ wi = w.drewN q ∧ Hid (∀ j', j' < j → hitP ls i j' = false)) (fun jv _ _ _ => n - (intOf jv).toNat)
      case atStart => exact ⟨0, m, by omega, rfl, rfl, fun j' hj => absurd hj (by omega)⟩
      case round =>
        obtain ⟨j, q, hj, rfl, rfl, hrow⟩ := hrel
        by_cases hltj : j < n
        · obtain ⟨ad2, b, A2, n2, c2, e, hy, hc2, hr2, hm2, hl2, hk2⟩ := (h.drewN q).row hltj
          injection e with e
          subst e
          have hr1' : Reads (w.drewN q) w.heap.size A1 n1 (vb a) := hr1.keep fun _ _ => rfl
          have cb := prefix_Begins A1 A2 n1 n2 c1 c2 a b (w.drewN q) hr1' hr2 (by unfold maxLen; omega) hm2 hk2
          have HH : Hid (hitP ls i j = ((i != j) && begB a b)) := by unfold Hid hitP; simp only [List.getD, HX.out, hy, Option.getD_some]
          clear hy hl2
          unfold maxLen at hm2
          by_cases hij : i = j
          · have hne : ((i : Int) != (j : Int)) = false := by simp; omega
            have HN := Lib.hid (hit_next hrow.out (by rw [HH.out]; simp [hij]))
            clear hij
            go_wp2
            go_roundw
            case rel => exact ⟨j + 1, q, by omega, by go_num, rfl, HN⟩
            case measure => simp only [intOf]; omega
          · have hne : ((i : Int) != (j : Int)) = true := by simp; omega
            have hne2 : (i != j) = true := by simpa using hij
            rw [hne2, Bool.true_and] at HH
            clear hij hne2
            cases hb : begB a b
            · rw [hb] at cb HH
              have HN := Lib.hid (hit_next hrow.out HH.out)
              clear hb
              go_wp2_with (go_at_call 63; refine cb.mono ?_; rintro e w' ⟨rfl, m2, rfl⟩)
              go_roundw
              case rel => exact ⟨j + 1, q + m2, by omega, by go_num, by first | rfl | rw [World.drewN_drewN], HN⟩
              case measure => simp only [intOf]; omega
            · rw [hb] at cb HH
              have HF := Lib.hid (freeB_false hlt hltj HH.out)
              clear hb
              go_wp2_with (go_at_call 63; refine cb.mono ?_; rintro e w' ⟨rfl, m2, rfl⟩)
              go_ret
              exact ⟨ret_b HF.out.symm, q + m2, by first | rfl | rw [World.drewN_drewN]⟩
        · obtain rfl : j = n := by omega
          have HN := Lib.hid (hit_row hall.out hrow.out)
          go_wp2
          go_roundw
          case rel => exact ⟨i + 1, q, by omega, by go_num, rfl, HN⟩
          case measure => simp only [intOf]; omega
    · obtain rfl : i = n := by omega
      have HT := Lib.hid (freeB_true hall.out)
      go_wp2
      go_ret
      exact ⟨ret_b HT.out.symm, m, rfl⟩
set_option maxHeartbeats 800000 in
theorem ref_Prefix (A : Option Addr) (n c : Nat) (ls : List (List Bool)) (w : World) (h : Reads2c w w.heap.size A n ls) (hn : n ≤ maxLen) :
    Calls Try.prog 26 #[.slice A n c] w (RetQ w (.bool (freeB ls n))) := by
  unfold maxLen at hn
  go_enter Try.func26, Try.ntmps26
  go_wp2
  go_loopw [3, 4] (fun iv a1 wr => ∃ i m : Nat, i ≤ n ∧ iv = .int .i64 i ∧ wr = w.drewN m ∧ Hid (∀ i', i' < i → ∀ j, j < n → hitP ls i' j = false)) (fun iv _ _ => n - (intOf iv).toNat)
  case atStart => exact ⟨0, 0, by omega, rfl, rfl, fun i' hi => absurd hi (by omega)⟩
  case round =>
    obtain ⟨i, m, hi, rfl, rfl, hall⟩ := hrel
    by_cases hlt : i < n
    · obtain ⟨ad, a, A1, n1, c1, e, hx, hc1, hr1, hm1, hl1, hk1⟩ := (h.drewN m).row hlt
      subst e
      have HX := Lib.hid hx
      clear hx hl1
      unfold maxLen at hm1
      have i1 : (0 : Int) ≤ (i : Int) := Int.natCast_nonneg i
      have i2 : (i : Int) < (n : Int) := Int.ofNat_lt.2 hlt
      go_wp2
      go_loopw [4] (fun jv wi => ∃ j q : Nat, j ≤ n ∧ jv = .int .i64 j ∧ wi = w.drewN q ∧ Hid (∀ j', j' < j → hitP ls i j' = false)) (fun jv _ => n - (intOf jv).toNat)
      case atStart => exact ⟨0, m, by omega, rfl, rfl, fun j' hj => absurd hj (by omega)⟩
      case round =>
        obtain ⟨j, q, hj, rfl, rfl, hrow⟩ := hrel
        by_cases hltj : j < n
        · obtain ⟨ad2, b, A2, n2, c2, e, hy, hc2, hr2, hm2, hl2, hk2⟩ := (h.drewN q).row hltj
          injection e with e
          subst e
          have cb := fun t => ref_Begins A1 A2 n1 n2 c1 c2 a b (w.drewN t) (hr1.keep (w' := w.drewN t) fun _ _ => rfl) (hr2.keep (w' := w.drewN t) fun _ _ => rfl) (by unfold maxLen; omega) hm2 hk2
          have hc1' : w.cell? (ad.add i) = some (.slice A1 n1 c1) := hc1
          have hc2' : w.cell? (ad.add j) = some (.slice A2 n2 c2) := hc2
          have HH : Hid (hitP ls i j = ((i != j) && begB a b)) := by unfold Hid hitP; simp only [List.getD, HX.out, hy, Option.getD_some]
          have j1 : (0 : Int) ≤ (j : Int) := Int.natCast_nonneg j
          have j2 : (j : Int) < (n : Int) := Int.ofNat_lt.2 hltj
          clear hy hl2
          unfold maxLen at hm2
          by_cases hij : i = j
          · have hne : ((i : Int) != (j : Int)) = false := by simp; omega
            have HN := Lib.hid (hit_next hrow.out (by rw [HH.out]; simp [hij]))
            have hne5 : decide ((i : Int) = (j : Int)) = true := by simp; omega
            have hne6 : decide (i = j) = true := by simp; omega
            clear hij
            go_wp2
            go_quiet (fail)
            go_wp2
            go_roundw
            case rel => exact ⟨j + 1, q + nq, by omega, by go_num, by first | rfl | rw [World.drewN_drewN], HN⟩
            case measure => simp only [intOf]; omega
          · have hne : ((i : Int) != (j : Int)) = true := by simp; omega
            have hne2 : (i != j) = true := by simpa using hij
            rw [hne2, Bool.true_and] at HH
            have hne5 : decide ((i : Int) = (j : Int)) = false := by simp; omega
            have hne6 : decide (i = j) = false := by simp; omega
            clear hij hne2
            cases hb : begB a b
            · rw [hb] at cb HH
              have HN := Lib.hid (hit_next hrow.out HH.out)
              clear hb
              go_wp2
              go_quiet ((go_at_call 50; first | exact quietQ (cb _) | exact quietQ2 (cb _)))
              go_wp2
              go_roundw
              case rel => exact ⟨j + 1, q + nq, by omega, by go_num, by first | rfl | rw [World.drewN_drewN], HN⟩
              case measure => simp only [intOf]; omega
            · rw [hb] at cb HH
              have HF := Lib.hid (freeB_false hlt hltj HH.out)
              clear hb
              go_wp2
              go_quiet ((go_at_call 50; first | exact quietQ (cb _) | exact quietQ2 (cb _)))
              go_wp2
              go_ret
              exact ⟨ret_b HF.out.symm, q + nq, by first | rfl | rw [World.drewN_drewN]⟩
        · obtain rfl : j = n := by omega
          have HN := Lib.hid (hit_row hall.out hrow.out)
          go_wp2
          go_roundw
          case rel => exact ⟨i + 1, q, by omega, by go_num, rfl, HN⟩
          case measure => simp only [intOf]; omega
    · obtain rfl : i = n := by omega
      have HT := Lib.hid (freeB_true hall.out)
      go_wp2
      go_ret
      exact ⟨ret_b HT.out.symm, m, rfl⟩

set_option maxHeartbeats 400000 in
theorem prefix_Prefix_err (A : Option Addr) (n c : Nat) (ls : List (List Bool)) (z : Int) (w : World) (h : Reads2 w w.heap.size A n ls) (hn : n ≤ maxLen) (hz : Hid (codeErr ls = z)) (h0 : (z != 0) = true) :
    Calls Try.prog 25 #[.slice A n c] w (RetQ w (.tuple #[.bool false, .int .i64 z])) := by
  have c1 := prefix_Check A n c ls z w h hn hz
  go_enter Try.func25, Try.ntmps25
  go_wp2_with (go_at_call 42; refine c1.mono ?_; rintro e w' ⟨rfl, m1, rfl⟩)
  go_ret2
  exact ⟨rfl, m1, rfl⟩
set_option maxHeartbeats 400000 in
theorem prefix_Prefix (A : Option Addr) (n c : Nat) (ls : List (List Bool)) (w : World) (h : Reads2c w w.heap.size A n ls) (hn : n ≤ maxLen) (hz : Hid (codeErr ls = 0)) :
    Calls Try.prog 25 #[.slice A n c] w (RetQ w (.tuple #[.bool (freeB ls n), .int .i64 0])) := by
  have c1 := prefix_Check A n c ls 0 w h.plain hn hz
  have c2 := fun m => prefix_free A n c ls (w.drewN m) (h.drewN m) hn
  generalize freeB ls n = b at *
  go_enter Try.func25, Try.ntmps25
  go_wp2_with (first | (go_at_call 42; refine c1.mono ?_; rintro e w' ⟨rfl, m1, rfl⟩) | (go_at_call 49; refine (c2 _).mono ?_; rintro e w' ⟨rfl, m2, rfl⟩))
  go_ret2
  exact ⟨rfl, m1 + m2, by first | rfl | rw [World.drewN_drewN]⟩
set_option maxHeartbeats 400000 in
theorem PrefixTells_walk (A : Option Addr) (n c : Nat) (ls : List (List Bool)) (w : World) (h : Reads2c w w.heap.size A n ls) (hn : n * 24 ≤ reachBytes) (_ : n ≤ c) :
    Calls Try.prog 6 #[.slice A n c] w (LawTrue w) := by
  have hn' : n ≤ maxLen := by have := reachBytes_lt; unfold maxLen; omega
  clear hn
  by_cases h0 : codeErr ls = 0
  · have c1 := prefix_Prefix A n c ls w h hn' h0
    have c2 := fun m => ref_CodeCheck A n c ls 0 (w.drewN m) (h.plain.drewN m) hn' h0
    have c3 := fun m => ref_Prefix A n c ls (w.drewN m) (h.drewN m) hn'
    clear h0
    generalize freeB ls n = b at *
    cases b
    all_goals
      go_enter Try.func6, Try.ntmps6
      go_wp2_with (first | (go_at_call 25; refine c1.mono ?_; rintro e w1 ⟨rfl, m1, rfl⟩) | (go_at_call 16; refine (c2 _).mono ?_; rintro e w' ⟨rfl, rfl⟩) | (go_at_call 26; refine (c3 _).mono ?_; rintro e w2 ⟨rfl, m2, rfl⟩))
      go_ret
      exact .drewN _ _
  · have hz : (codeErr ls != 0) = true := by simpa using h0
    have c1 := prefix_Prefix_err A n c ls (codeErr ls) w h.plain hn' rfl hz
    have c2 := fun m => ref_CodeCheck A n c ls (codeErr ls) (w.drewN m) (h.plain.drewN m) hn' rfl
    clear h0
    generalize codeErr ls = z at *
    go_enter Try.func6, Try.ntmps6
    go_wp2_with (first | (go_at_call 25; refine c1.mono ?_; rintro e w1 ⟨rfl, m1, rfl⟩) | (go_at_call 16; refine (c2 _).mono ?_; rintro e w' ⟨rfl, rfl⟩))
    go_ret
    exact .drewN _ _
end Go.Proofs.Ytfhpgiidcggobaa

import Derived.Test.YtakpkllfoddalaaDrop
import Derived.Test.YtakpkllfoddalaaComb
import Derived.Test.YtakpkllfoddalaaStore
import Derived.Test.YtakpkllfoddalaaWordsEq
set_option linter.unusedVariables false
namespace Go.Proofs.Ytakpkllfoddalaa
open Go.RowKit

theorem el_boolD : Elem Try.prog 29 4 (.bool false) 1 := Elem.mk' Try.underlying29 (by kernel_rfl) rfl
theorem el_u32D : Elem Try.prog 22 27 (.int .u32 0) 4 := Elem.mk' Try.underlying22 (by kernel_rfl) rfl

def bitsL (n w : Nat) : List Bool := (List.range n).map (bitB w)
def dropP (n : Nat) (a : Int) (w : Nat) : Bool := decide (placesOf (bitsL n w) = a)
def dropL (n : Nat) (a : Int) : List Nat := (List.range (2 ^ n)).filter (dropP n a)
theorem bit_shr (x i : Nat) (hx : x < 4294967296) : (bits .and .u32 ((x : Int) / 2 ^ i) 1 == 1) = bitB x i := by
  have e : ((x : Int) / 2 ^ i) = ((x / 2 ^ i : Nat) : Int) := by rw [Int.natCast_ediv, Int.natCast_pow]; rfl
  have hle : x / 2 ^ i ≤ x := Nat.div_le_self _ _
  rw [e, show (1 : Int) = ((1 : Nat) : Int) from rfl, u32_and_nat (x / 2 ^ i) 1 (by omega) (by omega), Nat.and_one_is_mod, bitB]
  by_cases h : x / 2 ^ i % 2 = 1
  · simp [h]
  · have h0 : x / 2 ^ i % 2 = 0 := by omega
    rw [h0]; rfl

set_option maxHeartbeats 1600000 in
theorem drop_Words (n : Nat) (a : Int) (w : World) (hn : n ≤ 12) (ha : ¬ a < 0) (ha2 : ¬ (n : Int) < a) :
    Calls Try.prog 15 #[.int .i64 (n : Int), .int .i64 a] w (fun e w' => ∃ A m c, e = .returned (.tuple #[.slice A m c, .int .i64 0]) ∧ Reads w' w'.heap.size A m (vn .u32 (dropL n a)) ∧ m ≤ maxLen ∧ Below w.heap.size w w') := by
  have hp12 := pow_le12 hn
  obtain ⟨p, hp⟩ : ∃ p, p = 2 ^ n := ⟨_, rfl⟩
  have es := shl_int hn
  rw [← hp] at es hp12
  have HP := Lib.hid hp
  have d1 : decide (a < 0) = false := decide_eq_false ha
  have d2 : decide ((n : Int) < a) = false := decide_eq_false ha2
  have d3 : decide ((n : Int) < 0) = false := decide_eq_false (by omega)
  have d4 : decide ((12 : Int) < n) = false := decide_eq_false (by omega)
  clear hp
  go_enter Try.func15, Try.ntmps15
  go_wp2
  go_loopw [6, 25] (fun v i wr => ∃ j : Nat, j ≤ p ∧ i = .int .u32 j ∧ Own wr w.heap.size 27 v (vn .u32 ((List.range j).filter (dropP n a))) ∧ Below w.heap.size w wr) (fun _ i _ => p - (intOf i).toNat)
  case atStart => exact ⟨0, by omega, rfl, Own.nil _ _ _, Below.refl _ _⟩
  case round =>
    obtain ⟨j, hj, rfl, hown, hbel⟩ := hrel
    have hB := hbel.size
    have hl : (vn .u32 ((List.range j).filter (dropP n a))).length ≤ 4096 := by
      rw [List.length_map]; have := filt_len (dropP n a) j; omega
    by_cases hlt : j < p
    · have hj32 : j < 4294967296 := by omega
      have HN := Lib.hid (filt_next (dropP n a) j)
      go_wp2_with (at_make; refine mkN el_boolD rfl _ _ rfl wr.heap.size n rfl rfl rfl rfl (by omega) (by unfold maxLen; omega) (Nat.le_refl _) ?_; intro w1 ho1 hb1 hs1)
      have ho1' : Own w1 wr.heap.size 4 (.slice (some ⟨wr.heap.size, 0, none⟩) n n) (vb (fillTo (bitB j) false n 0)) := by rw [fillTo_zero]; simpa [vb] using ho1
      clear ho1
      generalize (⟨wr.heap.size, 0, none⟩ : Addr) = ad at *
      have hown1 := hown.below hb1 (Nat.le_refl _)
      go_loopw [9, 32] (fun x9 i wi => ∃ k : Nat, k ≤ n ∧ i = .int .i64 k ∧ Own wi wr.heap.size 4 (.slice (some ad) n n) (vb (fillTo (bitB j) false n k)) ∧ Below wr.heap.size wr wi) (fun _ i _ => n - (intOf i).toNat)
      case atStart => exact ⟨0, by omega, rfl, ho1', hb1⟩
      case round =>
        obtain ⟨k, hk, rfl, hrow, hb2⟩ := hrel
        by_cases hlt2 : k < n
        · have hbit := bit_shr j k hj32
          have hfz := hrow.frozenAt k
          have hset := hrow.set k (.bool (bitB j k))
          rw [vb_set, fillTo_next hlt2] at hset
          have hbs := hb2.trans (hrow.setBelow (Nat.le_refl _) k (.bool (bitB j k)))
          have hcell := hrow.cell (j := k) (by rw [List.getElem?_map, fillTo_at hlt2]; rfl)
          generalize bitB j k = bb at *
          go_wp2
          go_roundw
          case rel => exact ⟨k + 1, by omega, by go_num, hset, hbs⟩
          case measure => simp only [intOf]; omega
        · obtain rfl : k = n := by omega
          rw [fillTo_full] at hrow
          have hlen : (bitsL k j).length = k := by simp [bitsL]
          have hbd := weigh_bd (bitsL k j) k (by omega)
          rw [List.take_of_length_le (Nat.le_of_eq hlen)] at hbd
          have hbs := hbel.trans (hb2.mono hB)
          have hB2 := hbs.size
          have hown2 := hown.below hb2 (Nat.le_refl _)
          obtain ⟨y, hy⟩ : ∃ y, weighOf (bitsL k j) = y := ⟨_, rfl⟩
          have c1 := fun (w' : World) (h : Reads w' w'.heap.size (some ad) k (vb (bitsL k j))) => drop_weigh (some ad) k k (bitsL k j) y w' h (by omega) hy
          have c2 := c1 _ hrow.reads
          rw [hy] at hbd
          have hP : dropP k a j = (y % ((k : Int) + 1) == a) := by
            unfold dropP placesOf; rw [hlen, hy]
            by_cases h : y % ((k : Int) + 1) = a <;> simp [h]
          clear hy c1 hlen
          by_cases hc : (y % ((k : Int) + 1) == a) = true
          · have HN' : Hid ((List.range (j + 1)).filter (dropP k a) = (List.range j).filter (dropP k a) ++ [j]) := by have := HN.out; rw [hP, if_pos hc] at this; exact this
            clear HN hP
            go_wp2_with (first | (go_at_call 45; refine c2.mono ?_; rintro e w' ⟨rfl, rfl⟩) | (at_builtin; refine app1 el_u32D rfl _ _ rfl rfl hown2 _ _ rfl rfl (by unfold maxLen; omega) (by omega) hB2 ?_; intro v3 w3 ho3 hb3 _ _))
            go_roundw
            case rel => exact ⟨j + 1, by omega, by go_num, by rw [HN'.out]; simpa [vn] using ho3, hbs.trans hb3⟩
            case measure => simp only [intOf]; omega
          · have HN' : Hid ((List.range (j + 1)).filter (dropP k a) = (List.range j).filter (dropP k a)) := by have := HN.out; rw [hP, if_neg hc, List.append_nil] at this; exact this
            have hc' : (y % ((k : Int) + 1) == a) = false := by simpa using hc
            clear HN hP hc
            go_wp2_with (go_at_call 45; refine c2.mono ?_; rintro e w' ⟨rfl, rfl⟩)
            go_roundw
            case rel => exact ⟨j + 1, by omega, by go_num, by rw [HN'.out]; exact hown2, hbs⟩
            case measure => simp only [intOf]; omega
    · obtain rfl : j = p := by omega
      obtain ⟨A2, c2, e⟩ := hown.form
      generalize hn2 : (vn .u32 ((List.range j).filter (dropP n a))).length = n2 at e hl
      subst e
      clear hn2
      go_wp2
      go_ret2
      refine ⟨A2, n2, c2, rfl, ?_, by unfold maxLen; omega, hbel⟩
      have := hown.reads
      unfold dropL; rw [← HP.out]; exact this
set_option maxHeartbeats 400000 in
theorem drop_Words_err (n a z : Int) (w : World) (hz : Hid (andErr n a = z)) (h0 : z ≠ 0) :
    Calls Try.prog 15 #[.int .i64 n, .int .i64 a] w (Ret w (.tuple #[.slice none 0 0, .int .i64 z])) := by
  by_cases h1 : n < 0 ∨ 12 < n
  · have HZ : Hid (z = 1) := by unfold Hid; rw [← hz.out, andErr, if_pos h1]
    by_cases h2 : n < 0
    all_goals
      go_enter Try.func15, Try.ntmps15
      go_wp2
      go_ret2
      exact ⟨by rw [HZ.out]; rfl, rfl⟩
  · have h2 : a < 0 ∨ n < a := by
      by_cases h : a < 0 ∨ n < a
      · exact h
      · exfalso; apply h0; rw [← hz.out, andErr, if_neg h1, if_neg h]
    have HZ : Hid (z = 4) := by unfold Hid; rw [← hz.out, andErr, if_neg h1, if_pos h2]
    have d1 : decide (n < 0) = false := decide_eq_false (by omega)
    have d2 : decide (12 < n) = false := decide_eq_false (by omega)
    clear h1 h0
    by_cases h3 : a < 0
    all_goals
      go_enter Try.func15, Try.ntmps15
      go_wp2
      go_ret2
      exact ⟨by rw [HZ.out]; rfl, rfl⟩

set_option maxHeartbeats 1600000 in
theorem DropWords_walk (nb a : Int) (w : World) (_ : (Lit.int .i64 nb).wf = true) (_ : (Lit.int .i64 a).wf = true) :
    Calls Try.prog 3 #[.int .i64 nb, .int .i64 a] w (LawTrue w) := by
  have cb := fun w z hz => law_bitsAnd nb a z w hz
  by_cases h0 : andErr nb a = 0
  · have cb := fun w => cb w 0 h0
    have h1 : ¬ (nb < 0 ∨ 12 < nb) := by intro h; rw [andErr, if_pos h] at h0; omega
    have h2 : ¬ (a < 0 ∨ nb < a) := by intro h; rw [andErr, if_neg h1, if_pos h] at h0; omega
    obtain ⟨n, rfl⟩ := Int.eq_ofNat_of_zero_le (show 0 ≤ nb by omega)
    have hn : n ≤ 12 := by omega
    have c1 := drop_Words n a w hn (by omega) (by omega)
    have hp12 := pow_le12 hn
    obtain ⟨p, hp⟩ : ∃ p, p = 2 ^ n := ⟨_, rfl⟩
    have es := shl_int hn
    rw [← hp] at es hp12
    have HP := Lib.hid hp
    clear hp h0 h1 h2
    go_enter Try.func3, Try.ntmps3
    go_wp2_with (first | (go_at_call 15; refine c1.mono ?_; rintro e w1 ⟨A1, m1, k1, rfl, hr1, hm1, hb1⟩) | (go_at_call 16; refine (cb _).mono ?_; rintro e w' ⟨rfl, rfl⟩))
    go_loopw [8, 9] (fun v i wr => ∃ j : Nat, j ≤ p ∧ i = .int .u32 j ∧ Own wr w1.heap.size 27 v (vn .u32 ((List.range j).filter (dropP n a))) ∧ Below w1.heap.size w1 wr) (fun _ i _ => p - (intOf i).toNat)
    case atStart => exact ⟨0, by omega, rfl, Own.nil _ _ _, Below.refl _ _⟩
    case round =>
      obtain ⟨j, hj, rfl, hown, hbel⟩ := hrel
      have hB := hbel.size
      have hl : (vn .u32 ((List.range j).filter (dropP n a))).length ≤ 4096 := by
        rw [List.length_map]; have := filt_len (dropP n a) j; omega
      by_cases hlt : j < p
      · have hj32 : j < 4294967296 := by omega
        have HN := Lib.hid (filt_next (dropP n a) j)
        go_wp2_with (at_make; refine mkN el_boolD rfl _ _ rfl wr.heap.size n rfl rfl rfl rfl (by omega) (by unfold maxLen; omega) (Nat.le_refl _) ?_; intro w2 ho1 hb2 hs1)
        have ho1' : Own w2 wr.heap.size 4 (.slice (some ⟨wr.heap.size, 0, none⟩) n n) (vb (fillTo (bitB j) false n 0)) := by rw [fillTo_zero]; simpa [vb] using ho1
        clear ho1
        generalize (⟨wr.heap.size, 0, none⟩ : Addr) = ad at *
        go_loopw [11] (fun i wi => ∃ k : Nat, k ≤ n ∧ i = .int .i64 k ∧ Own wi wr.heap.size 4 (.slice (some ad) n n) (vb (fillTo (bitB j) false n k)) ∧ Below wr.heap.size wr wi) (fun i _ => n - (intOf i).toNat)
        case atStart => exact ⟨0, by omega, rfl, ho1', hb2⟩
        case round =>
          obtain ⟨k, hk, rfl, hrow, hb3⟩ := hrel
          by_cases hlt2 : k < n
          · have cbit := fun w => ref_Bit j k w hj32 (by omega)
            have hfz := hrow.frozenAt k
            have hset := hrow.set k (.bool (bitB j k))
            rw [vb_set, fillTo_next hlt2] at hset
            have hbs := hb3.trans (hrow.setBelow (Nat.le_refl _) k (.bool (bitB j k)))
            have hcell := hrow.cell (j := k) (by rw [List.getElem?_map, fillTo_at hlt2]; rfl)
            generalize bitB j k = bb at *
            go_wp2_with (go_at_call 17; refine (cbit _).mono ?_; rintro e w' ⟨rfl, rfl⟩)
            go_roundw
            case rel => exact ⟨k + 1, by omega, by go_num, hset, hbs⟩
            case measure => simp only [intOf]; omega
          · obtain rfl : k = n := by omega
            rw [fillTo_full] at hrow
            have hbs := hbel.trans (hb3.mono hB)
            have hB2 := hbs.size
            have hown2 := hown.below hb3 (Nat.le_refl _)
            obtain ⟨y, hy⟩ : ∃ y, placesOf (bitsL k j) = y := ⟨_, rfl⟩
            have c1 := fun (w' : World) (h : Reads w' w'.heap.size (some ad) k (vb (bitsL k j))) => ref_Places (some ad) k k (bitsL k j) y w' h (by omega) hy
            have c2 := c1 _ hrow.reads
            have hP : dropP k a j = (y == a) := by
              unfold dropP; rw [hy]
              by_cases h : y = a <;> simp [h]
            clear hy c1
            by_cases hc : (y == a) = true
            · have HN' : Hid ((List.range (j + 1)).filter (dropP k a) = (List.range j).filter (dropP k a) ++ [j]) := by have := HN.out; rw [hP, if_pos hc] at this; exact this
              clear HN hP
              go_wp2_with (first | (go_at_call 18; refine c2.mono ?_; rintro e w' ⟨rfl, rfl⟩) | (at_builtin; refine app1 el_u32D rfl _ _ rfl rfl hown2 _ _ rfl rfl (by unfold maxLen; omega) (by omega) hB2 ?_; intro v3 w3 ho3 hb4 _ _))
              go_roundw
              case rel => exact ⟨j + 1, by omega, by go_num, by rw [HN'.out]; simpa [vn] using ho3, hbs.trans hb4⟩
              case measure => simp only [intOf]; omega
            · have HN' : Hid ((List.range (j + 1)).filter (dropP k a) = (List.range j).filter (dropP k a)) := by have := HN.out; rw [hP, if_neg hc, List.append_nil] at this; exact this
              have hc' : (y == a) = false := by simpa using hc
              clear HN hP hc
              go_wp2_with (go_at_call 18; refine c2.mono ?_; rintro e w' ⟨rfl, rfl⟩)
              go_roundw
              case rel => exact ⟨j + 1, by omega, by go_num, by rw [HN'.out]; exact hown2, hbs⟩
              case measure => simp only [intOf]; omega
      · obtain rfl : j = p := by omega
        obtain ⟨A2, c2, e⟩ := hown.form
        generalize hn2 : (vn .u32 ((List.range j).filter (dropP n a))).length = n2 at e hl
        subst e
        clear hn2
        have hr2 := hown.reads
        have hr1' := (hr1.below hbel).more hbel.size
        unfold dropL at hr1'
        rw [← HP.out] at hr1'
        have c3 := ref_Words A1 A2 m1 n2 k1 c2 _ _ true wr hr1' hr2 hm1 (by simp [Hid])
        clear hr1 hr1' hr2 hown
        go_wp2_with (go_at_call 19; refine c3.mono ?_; rintro e w3 ⟨rfl, m, rfl⟩)
        go_ret
        exact ⟨rfl, below_drewN (hb1.trans (hbel.mono hb1.size)) _⟩
  · have c1 := drop_Words_err nb a (andErr nb a) w rfl h0
    have cb := fun w => cb w (andErr nb a) rfl
    have hz : (andErr nb a != 0) = true := by simpa using h0
    clear h0
    generalize andErr nb a = z at *
    go_enter Try.func3, Try.ntmps3
    go_wp2_with (first | (go_at_call 15; refine c1.mono ?_; rintro e w1 ⟨rfl, rfl⟩) | (go_at_call 16; refine (cb _).mono ?_; rintro e w' ⟨rfl, rfl⟩))
    go_ret
    exact .same _
end Go.Proofs.Ytakpkllfoddalaa

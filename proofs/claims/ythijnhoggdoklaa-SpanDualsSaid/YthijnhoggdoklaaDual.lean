import Derived.Test.YthijnhoggdoklaaLeader
import Derived.Test.YthijnhoggdoklaaDualIdx
import Derived.Test.YthijnhoggdoklaaWordsEq
import Derived.Test.YthijnhoggdoklaaStore
set_option linter.unusedVariables false
namespace Go.Proofs.Ythijnhoggdoklaa
open Go.RowKit

def isOdd (x c : Nat) : Bool := oddN c x == 1
def dualL (l : List Nat) (j : Nat) : List Nat := (List.range j).filter fun x => !l.any (isOdd x)
theorem dualL_next (l : List Nat) (j : Nat) : dualL l (j + 1) = dualL l j ++ if l.any (isOdd j) then [] else [j] := by
  unfold dualL; rw [filt_next]; cases l.any (isOdd j) <;> simp
theorem dualL_len (l : List Nat) (j : Nat) : (dualL l j).length ≤ j := filt_len _ j
theorem el_u32d : Elem Try.prog 30 22 (.int .u32 0) 4 := Elem.mk' Try.underlying30 (by kernel_rfl) rfl

set_option maxHeartbeats 400000 in
theorem even_1 (y x : Nat) (p1 : Addr) (w : World) (hy : y < 4294967296) (hx : x < 4294967296) (hc : w.cell? p1 = some (.int .u32 (x : Int))) :
    Calls Try.prog 59 #[.int .u32 (y : Int), .pointer (some p1)] w (RetQ w (.bool (isOdd x y))) := by
  have hand : y &&& x < 4294967296 := Nat.and_lt_two_pow (n := 32) _ hx
  have ea := u32_and_nat y x hy hx
  have co := ones_count (y &&& x) w hand
  have HB : Hid ((((pop (y &&& x) : Int) % 2) == 1) = isOdd x y) := oddB_of y x
  have hpl := pop_le (y &&& x)
  generalize isOdd x y = o at *
  generalize y &&& x = z at *
  generalize pop z = p at *
  go_enter Try.func59, Try.ntmps59
  go_wp2_with (go_at_call 56; refine co.mono ?_; rintro e w' ⟨rfl, m, rfl⟩)
  go_ret
  exact ⟨ret_b (by rw [← HB.out]), m, rfl⟩
set_option maxHeartbeats 400000 in
theorem span_Even (A : Option Addr) (n c : Nat) (l : List Nat) (x : Nat) (b : Bool) (w : World) (h : Reads w w.heap.size A n (vn .u32 l)) (hn : n ≤ 8) (hw : ∀ x ∈ l, x < 4294967296) (hx : x < 4294967296) (hb : Hid (l.any (isOdd x) = b)) :
    Calls Try.prog 46 #[.slice A n c, .int .u32 (x : Int)] w (RetB w (.bool !b)) := by
  have hcell : (w.alloc (.cells #[.int .u32 (x : Int)] 22)).cell? ⟨w.heap.size, 0, none⟩ = some (.int .u32 (x : Int)) := cell_one_new _ _ _ 0 _ rfl
  have hbel : Below w.heap.size w (w.alloc (.cells #[.int .u32 (x : Int)] 22)) := (Below.refl _ _).alloc (Nat.le_refl _) _
  have hlen := h.nat_len
  have hany : anyTo (fun i => isOdd x (l.getD i 0)) n = b := by
    rw [← hb.out, ← hlen]; exact anyTo_list _ _ _ (fun k y hy => by simp only [List.getD, hy, Option.getD_some])
  have cc := contains_even ⟨w.heap.size, 0, none⟩ A n c (vn .u32 l) (fun i => isOdd x (l.getD i 0)) b (w.alloc (.cells #[.int .u32 (x : Int)] 22)) ((h.alloc (Nat.le_refl _) _).more (by simp)) (by unfold maxLen; omega) (fun i u mm hu => by
    rw [List.getElem?_map] at hu
    obtain ⟨y, hy, rfl⟩ := Option.map_eq_some_iff.1 hu
    simp only [List.getD, hy, Option.getD_some]
    exact even_1 y x _ _ (hw y (mem_at hy)) hx hcell) hany
  clear hany hlen hcell
  go_enter Try.func46, Try.ntmps46
  go_wp2_with (go_at_call 58; refine cc.mono ?_; rintro e w' ⟨rfl, m, rfl⟩)
  go_ret
  exact ⟨rfl, below_drewN hbel m⟩

/-- returned a slice of words, and a code -/
def RetRE (w : World) (xs : List Value) (z : Int) (e : Ending) (w' : World) : Prop :=
  ∃ A n c, e = .returned (.tuple #[.slice A n c, .int .i64 z]) ∧ Reads w' w'.heap.size A n xs ∧ n ≤ maxLen ∧ Below w.heap.size w w'
set_option maxHeartbeats 600000 in
theorem span_Dual_err (nb : Int) (A : Option Addr) (n c : Nat) (l : List Nat) (z : Int) (w : World) (h : Reads w w.heap.size A n (vn .u32 l)) (hw : ∀ x ∈ l, x < 4294967296) (hz : Hid (rowsErr nb l = z)) (h0 : (z != 0) = true) :
    Calls Try.prog 20 #[.int .i64 nb, .slice A n c] w (Ret w (.tuple #[.slice none 0 0, .int .i64 z])) := by
  have c1 := span_Check nb A n c l z w h hw hz
  go_enter Try.func20, Try.ntmps20
  go_wp2_with (go_at_call 45; refine c1.mono ?_; rintro e w' ⟨rfl, rfl⟩)
  go_ret2
  exact ⟨rfl, rfl⟩
set_option maxHeartbeats 800000 in
theorem span_Dual (m : Nat) (A : Option Addr) (n c : Nat) (l : List Nat) (w : World) (h : Reads w w.heap.size A n (vn .u32 l)) (hw : ∀ x ∈ l, x < 4294967296) (hz : Hid (rowsErr m l = 0)) (hn : n ≤ 8) (hm : m ≤ 12) :
    Calls Try.prog 20 #[.int .i64 (m : Int), .slice A n c] w (RetRE w (vn .u32 (dualL l (2 ^ m))) 0) := by
  have c1 := span_Check m A n c l 0 w h hw hz
  have hp12 := pow_le12 hm
  obtain ⟨p, hp⟩ : ∃ p, p = 2 ^ m := ⟨_, rfl⟩
  have es := shl_int hm
  rw [← hp] at es hp12 ⊢
  clear hp
  go_enter Try.func20, Try.ntmps20
  go_wp2_with (go_at_call 45; refine c1.mono ?_; rintro e w' ⟨rfl, rfl⟩)
  rw [es]
  go_loopw [7, 17] (fun v i wr => ∃ j : Nat, j ≤ p ∧ i = .int .u32 j ∧ Own wr w.heap.size 22 v (vn .u32 (dualL l j)) ∧ Below w.heap.size w wr) (fun _ i _ => p - (intOf i).toNat)
  case atStart => exact ⟨0, by omega, rfl, Own.nil _ _ _, Below.refl _ _⟩
  case round =>
    obtain ⟨j, hj, rfl, hown, hb⟩ := hrel
    have hl : (vn .u32 (dualL l j)).length ≤ 4096 := by rw [List.length_map]; have := dualL_len l j; omega
    have hB := hb.size
    by_cases hlt : j < p
    · have ce := fun b => span_Even A n c l j b _ ((h.below hb).more hb.size) hn hw (by omega)
      have HN := Lib.hid (dualL_next l j)
      cases hq : l.any (isOdd j)
      · have cc := ce false hq
        rw [hq] at HN
        clear ce hq
        go_wp2_with (first | (go_at_call 46; refine cc.mono ?_; clear cc; rintro e w2 ⟨rfl, hb2⟩; have hown2 := hown.below hb2 (Nat.le_refl _); have hB2 := hb2.size) | (at_builtin; refine app1 el_u32d rfl _ _ rfl rfl hown2 _ _ rfl rfl (by unfold maxLen; omega) (by omega) (by omega) ?_; intro v1 w3 ho1 hb3 _ _))
        go_roundw
        case rel => exact ⟨j + 1, by omega, by go_num, by rw [HN.out]; simpa [vn] using ho1, (hb.trans (hb2.mono hB)).trans hb3⟩
        case measure => simp only [intOf]; omega
      · have cc := ce true hq
        rw [hq] at HN
        clear ce hq
        go_wp2_with (go_at_call 46; refine cc.mono ?_; clear cc; rintro e w2 ⟨rfl, hb2⟩)
        go_roundw
        case rel => exact ⟨j + 1, by omega, by go_num, by rw [HN.out]; simpa using hown.below hb2 (Nat.le_refl _), hb.trans (hb2.mono hB)⟩
        case measure => simp only [intOf]; omega
    · obtain rfl : j = p := by omega
      obtain ⟨A2, c2, e⟩ := hown.form
      generalize hn2 : (vn .u32 (dualL l j)).length = n2 at e hl
      subst e
      clear hn2
      go_wp2
      go_ret2
      exact ⟨A2, n2, c2, rfl, hown.reads, by unfold maxLen; omega, hb⟩
theorem any_next {l : List Nat} {k c x : Nat} (h : l[k]? = some c) : (l.take (k + 1)).any (isOdd x) = ((l.take k).any (isOdd x) || isOdd x c) := by
  rw [take_next h, List.any_append]; simp
set_option maxHeartbeats 800000 in
theorem ref_Dual (m : Nat) (A : Option Addr) (n c : Nat) (l : List Nat) (w : World) (h : Reads w w.heap.size A n (vn .u32 l)) (hw : ∀ x ∈ l, x < 4294967296) (hn : n ≤ 8) (hm : m ≤ 12) :
    Calls Try.prog 23 #[.int .i64 (m : Int), .slice A n c] w (RetR w (vn .u32 (dualL l (2 ^ m)))) := by
  have H := Lib.hid h.nat_len
  have hp12 := pow_le12 hm
  obtain ⟨p, hp⟩ : ∃ p, p = 2 ^ m := ⟨_, rfl⟩
  have es := shl_int hm
  rw [← hp] at es hp12 ⊢
  clear hp
  go_enter Try.func23, Try.ntmps23
  go_wp2
  go_loopw [5, 6, 7] (fun v i ok wr => ∃ j : Nat, j ≤ p ∧ i = .int .u32 j ∧ Own wr w.heap.size 22 v (vn .u32 (dualL l j)) ∧ Below w.heap.size w wr) (fun _ i _ _ => p - (intOf i).toNat)
  case atStart => exact ⟨0, by omega, rfl, Own.nil _ _ _, Below.refl _ _⟩
  case round =>
    obtain ⟨j, hj, rfl, hown, hb⟩ := hrel
    have hl : (vn .u32 (dualL l j)).length ≤ 4096 := by rw [List.length_map]; have := dualL_len l j; omega
    have hB := hb.size
    by_cases hlt : j < p
    · have HN := Lib.hid (dualL_next l j)
      have hrd := h.below hb
      go_wp2
      rw [es]
      go_wp2
      go_loop [7, 19] (fun b i => ∃ k : Nat, k ≤ n ∧ i = .int .i64 k ∧ b = .bool (!(l.take k).any (isOdd j))) (fun _ i => n - (intOf i).toNat)
      case atStart => exact ⟨0, by omega, rfl, by simp⟩
      case round =>
        obtain ⟨k, hk, rfl, rfl⟩ := hrel
        by_cases hlt2 : k < n
        · obtain ⟨ad, y, e, hbb, hy, hcy⟩ := hrd.nat_at hlt2
          subst e
          have co := ref_Odd y j wr (hw y (mem_at hy)) (by omega)
          have HA := Lib.hid (any_next (x := j) hy)
          have HO : Hid (isOdd j y = (oddN y j == 1)) := rfl
          rw [HO.out] at HA
          clear hy HO
          generalize (oddN y j == 1) = o at *
          cases hq : (l.take k).any (isOdd j)
          · rw [hq] at HA
            clear hq
            cases o
            all_goals
              go_wp2_with (go_at_call 44; refine co.mono ?_; rintro e w' ⟨rfl, rfl⟩)
              go_round
              case rel => exact ⟨k + 1, by omega, by go_num, by rw [HA.out]; rfl⟩
              case measure => simp [intOf]; omega
          · rw [hq] at HA
            clear hq
            go_wp2
            go_round
            case rel => exact ⟨k + 1, by omega, by go_num, by rw [HA.out]; rfl⟩
            case measure => simp [intOf]; omega
        · obtain rfl : k = n := by omega
          rw [List.take_of_length_le (Nat.le_of_eq H.out)]
          cases hq : l.any (isOdd j)
          · rw [hq] at HN
            clear hq
            go_wp2_with (at_builtin; refine app1 el_u32d rfl _ _ rfl rfl hown _ _ rfl rfl (by unfold maxLen; omega) (by omega) hB ?_; intro v1 w3 ho1 hb3 _ _)
            go_roundw
            case rel => exact ⟨j + 1, by omega, by go_num, by rw [HN.out]; simpa [vn] using ho1, hb.trans hb3⟩
            case measure => simp only [intOf]; omega
          · rw [hq] at HN
            clear hq
            go_wp2
            go_roundw
            case rel => exact ⟨j + 1, by omega, by go_num, by rw [HN.out]; simpa using hown, hb⟩
            case measure => simp only [intOf]; omega
    · obtain rfl : j = p := by omega
      obtain ⟨A2, c2, e⟩ := hown.form
      generalize hn2 : (vn .u32 (dualL l j)).length = n2 at e hl
      subst e
      clear hn2
      go_wp2
      rw [es]
      go_wp2
      go_ret
      exact ⟨A2, n2, c2, rfl, hown.reads, by unfold maxLen; omega, hb⟩
set_option maxHeartbeats 600000 in
theorem SpanDuals_walk (nb : Int) (A : Option Addr) (n c : Nat) (l : List Nat) (w : World) (_ : (Lit.int .i64 nb).wf = true) (h : Reads w w.heap.size A n (vn .u32 l)) (hw : ∀ x ∈ l, x < 4294967296) (_ : n * 4 ≤ reachBytes) :
    Calls Try.prog 5 #[.int .i64 nb, .slice A n c] w (LawTrue w) := by
  by_cases h0 : rowsErr nb l = 0
  · obtain ⟨hn, m, rfl, hm, _⟩ := rowsErr_ok h0
    rw [h.nat_len] at hn
    have c1 := span_Dual m A n c l w h hw h0 hn hm
    have c2 := fun (w' : World) (hr : Reads w' w'.heap.size A n (vn .u32 l)) => ref_RowsCheck m A n c l 0 w' hr hw h0
    have c3 := fun (w' : World) (hr : Reads w' w'.heap.size A n (vn .u32 l)) => ref_Dual m A n c l w' hr hw hn hm
    clear h0
    generalize dualL l (2 ^ m) = q at *
    go_enter Try.func5, Try.ntmps5
    go_wp2_with (first | (go_at_call 20; refine c1.mono ?_; rintro e w1 ⟨A1, n1, k1, rfl, hr1, hm1, hb1⟩; have hr := (h.below hb1).more hb1.size) | (go_at_call 21; refine (c2 _ hr).mono ?_; rintro e w' ⟨rfl, rfl⟩) | (go_at_call 23; refine (c3 _ hr).mono ?_; rintro e w2 ⟨A2, n2, k2, rfl, hr2, hm2, hb2⟩; have cw := ref_Words A1 A2 n1 n2 k1 k2 q q true w2 (hr1.below hb2) hr2 hm1 (by simp [Hid])) | (go_at_call 22; refine cw.mono ?_; rintro e w3 ⟨rfl, m3, rfl⟩))
    go_ret
    exact ⟨rfl, below_drewN (hb1.trans (hb2.mono hb1.size)) _⟩
  · have hz : (rowsErr nb l != 0) = true := by simpa using h0
    have c1 := span_Dual_err nb A n c l (rowsErr nb l) w h hw rfl hz
    have c2 := ref_RowsCheck nb A n c l (rowsErr nb l) w h hw rfl
    clear h0
    generalize rowsErr nb l = z at *
    go_enter Try.func5, Try.ntmps5
    go_wp2_with (first | (go_at_call 20; refine c1.mono ?_; rintro e w1 ⟨rfl, rfl⟩) | (go_at_call 21; refine c2.mono ?_; rintro e w' ⟨rfl, rfl⟩))
    go_ret
    exact .same _
end Go.Proofs.Ythijnhoggdoklaa

import Derived.Test.YtdidahafbcddeaaSort
import Derived.Test.YtdidahafbcddeaaBits
import Derived.Test.YtdidahafbcddeaaBit64
import Derived.Test.YtdidahafbcddeaaAppz
import Derived.Test.YtdidahafbcddeaaQuiet
set_option linter.unusedVariables false
namespace Go.Proofs.Ytdidahafbcddeaa
open Go.RowKit Go.Shelf Go.Sort

theorem el_intU : Elem Try.prog 32 3 (.int .i64 0) 8 := Elem.mk' Try.underlying32 (by kernel_rfl) rfl
/-! ### the products in order: plain words -/
def insF {α : Type} [Inhabited α] (lt : α → α → Bool) (a : Nat) : Nat → Nat → Array α → Array α
  | 0, _, d => d
  | k + 1, i, d => insF lt a k (i + 1) (insInner lt a i d)
theorem insOuter_F {α : Type} [Inhabited α] (lt : α → α → Bool) (a b : Nat) : ∀ (k i : Nat) (d : Array α), b - i = k → insOuter lt a b i d = insF lt a k i d
  | 0, i, d, hk => by rw [insOuter, if_neg (by omega)]; rfl
  | k + 1, i, d, hk => by rw [insOuter, if_pos (by omega), insOuter_F lt a b k (i + 1) _ (by omega)]; rfl
def degU (p : Nat) : Nat := Lib.popAux 5 p
def cfU (x y : Fin 16) : Int := if degU x.val < degU y.val then -1 else if degU y.val < degU x.val then 1 else 0
def filU (r M : Nat) : List Nat := (List.range M).filter fun p => decide (degU p ≤ r)
def fil16 (r M : Nat) : List (Fin 16) := (List.finRange 16).filter fun p => decide (p.val < M) && decide (degU p.val ≤ r)
/-- all products, in the reference's order -/
def prodU (r M : Nat) : List Nat := (List.range (r + 1)).flatMap fun d => (List.range M).filter fun p => decide (degU p = d)
theorem prod_all : ∀ m r : Fin 5, (fil16 r.val (2 ^ m.val)).map Fin.val = filU r.val (2 ^ m.val) ∧ (insF (ltOf cfU) 0 ((fil16 r.val (2 ^ m.val)).length - 1) 1 (fil16 r.val (2 ^ m.val)).toArray).toList.map Fin.val = prodU r.val (2 ^ m.val) := by decide +kernel
theorem prod_eq {r m : Nat} (hm : m ≤ 4) (hr : r ≤ 4) : (fil16 r (2 ^ m)).map Fin.val = filU r (2 ^ m) ∧ (insertionSort (ltOf cfU) (fil16 r (2 ^ m)).toArray 0 (fil16 r (2 ^ m)).length).toList.map Fin.val = prodU r (2 ^ m) := by
  have h := prod_all ⟨m, by omega⟩ ⟨r, by omega⟩
  refine ⟨h.1, ?_⟩
  unfold insertionSort
  rw [insOuter_F _ _ _ _ _ _ rfl]
  exact h.2
/-! ### the walks -/
theorem ones_64 (x : Nat) (w : World) (hx : x < 16) : Calls Try.prog 61 #[.int .u64 (x : Int)] w (Ret w (.int .i64 (degU x : Int))) := by
  go_enter Try.func61, Try.ntmps61
  go_wp2
  go_ret
  refine ⟨?_, rfl⟩
  have h16 : x = 0 ∨ x = 1 ∨ x = 2 ∨ x = 3 ∨ x = 4 ∨ x = 5 ∨ x = 6 ∨ x = 7 ∨ x = 8 ∨ x = 9 ∨ x = 10 ∨ x = 11 ∨ x = 12 ∨ x = 13 ∨ x = 14 ∨ x = 15 := by omega
  rcases h16 with rfl | rfl | rfl | rfl | rfl | rfl | rfl | rfl | rfl | rfl | rfl | rfl | rfl | rfl | rfl | rfl <;> exact congrArg Ending.returned (congrArg (Value.int .i64) (by decide +kernel))
theorem ones_int (x : Nat) (w : World) (hx : x < 16) : Calls Try.prog 48 #[.int .u64 (x : Int)] w (Ret w (.int .i64 (degU x : Int))) := by
  have c := ones_64 x w hx
  go_enter Try.func48, Try.ntmps48
  go_wp2_with (go_at_call 61; refine c.mono ?_; clear c; rintro e w' ⟨rfl, rfl⟩)
  go_ret
  exact ⟨rfl, rfl⟩
theorem mul_degree (x : Nat) (w : World) (hx : x < 16) : Calls Try.prog 26 #[.int .i64 (x : Int)] w (Ret w (.int .i64 (degU x : Int))) := by
  have c := ones_int x w hx
  have i1 : (x : Int) % 18446744073709551616 = (x : Int) := by omega
  go_enter Try.func26, Try.ntmps26
  go_wp2_with (go_at_call 48; refine c.mono ?_; clear c; rintro e w' ⟨rfl, rfl⟩)
  go_ret
  exact ⟨rfl, rfl⟩
theorem cmp_nanU (x : Int) (w : World) : Calls Try.prog 59 #[.int .i64 x] w (Ret w (.bool false)) := by
  go_enter Try.func59, Try.ntmps59
  go_wp2
  go_ret
  exact ⟨rfl, rfl⟩
def cmpU (x y : Int) : Int := if x < y then -1 else if y < x then 1 else 0
theorem cmp_intU (x y : Int) (w : World) : Calls Try.prog 47 #[.int .i64 x, .int .i64 y] w (Ret w (.int .i64 (cmpU x y))) := by
  unfold cmpU
  by_cases h1 : x < y
  · rw [if_pos h1]
    go_enter Try.func47, Try.ntmps47
    go_wp2_with (go_at_call 59; refine (cmp_nanU _ w).mono ?_; rintro e w' ⟨rfl, rfl⟩)
    go_ret
    exact ⟨rfl, rfl⟩
  · rw [if_neg h1]
    by_cases h2 : y < x
    · rw [if_pos h2]
      go_enter Try.func47, Try.ntmps47
      go_wp2_with (go_at_call 59; refine (cmp_nanU _ w).mono ?_; rintro e w' ⟨rfl, rfl⟩)
      go_ret
      exact ⟨rfl, rfl⟩
    · rw [if_neg h2]
      go_enter Try.func47, Try.ntmps47
      go_wp2_with (go_at_call 59; refine (cmp_nanU _ w).mono ?_; rintro e w' ⟨rfl, rfl⟩)
      go_ret
      exact ⟨rfl, rfl⟩
theorem mul_less (x y : Fin 16) (w : World) : Calls Try.prog 46 #[.int .i64 (x.val : Int), .int .i64 (y.val : Int)] w (Ret w (.int .i64 (cfU x y))) := by
  have c1 := mul_degree x.val w x.isLt
  have c2 := mul_degree y.val w y.isLt
  have c3 := cmp_intU (degU x.val : Int) (degU y.val : Int) w
  have e : cmpU (degU x.val : Int) (degU y.val : Int) = cfU x y := by unfold cmpU cfU; simp only [Int.ofNat_lt]
  rw [e] at c3
  clear e
  generalize cfU x y = r at *
  obtain ⟨x, hx⟩ := x
  obtain ⟨y, hy⟩ := y
  dsimp only at *
  generalize degU x = dx at *
  generalize degU y = dy at *
  go_enter Try.func46, Try.ntmps46
  go_wp2_with (first
    | (go_at_call 26; refine c1.mono ?_; clear c1; rintro e w' ⟨rfl, rfl⟩)
    | (go_at_call 26; refine c2.mono ?_; clear c2; rintro e w' ⟨rfl, rfl⟩)
    | (go_at_call 47; refine c3.mono ?_; rintro e w' ⟨rfl, rfl⟩))
  go_ret
  exact ⟨rfl, rfl⟩
theorem filU_next (r j : Nat) : filU r (j + 1) = filU r j ++ if degU j ≤ r then [j] else [] := by
  unfold filU; rw [filt_next]; simp
theorem filU_len (r j : Nat) : (filU r j).length ≤ j := filt_len _ j
set_option maxHeartbeats 800000 in
theorem mul_products (r m : Nat) (w : World) (hm : m ≤ 4) (hr : r ≤ m) :
    Calls Try.prog 25 #[.int .i64 (r : Int), .int .i64 (m : Int)] w (RetS w 3 (vn .i64 (prodU r (2 ^ m)))) := by
  obtain ⟨M, hM⟩ : ∃ M, 2 ^ m = M := ⟨_, rfl⟩
  have hM2 : M ≤ 16 := by rw [← hM]; exact Nat.pow_le_pow_right (n := 2) (by omega) hm
  have hM1 : 1 ≤ M := by rw [← hM]; exact Nat.pow_pos (by omega)
  have hMi : (2 : Int) ^ m = (M : Int) := by rw [← hM]; exact (Int.natCast_pow 2 m).symm
  obtain ⟨p1, p2⟩ := prod_eq (r := r) (m := m) hm (by omega)
  rw [hM] at p1 p2
  rw [hM]
  have P1 := Lib.hid p1
  have P2 := Lib.hid p2
  clear p1 p2 hM
  have cd := fun (x : Nat) (W : World) (hx : x < 16) => mul_degree x W hx
  have i0 : (0 : Int) ≤ (m : Int) := by omega
  go_enter Try.func25, Try.ntmps25
  go_wp2
  go_loopw [5, 9] (fun v i wr => ∃ k : Nat, k ≤ M ∧ i = .int .i64 k ∧ Own wr w.heap.size 3 v (vn .i64 (filU r k)) ∧ Below w.heap.size w wr) (fun _ i _ => M - (intOf i).toNat)
  case atStart => exact ⟨0, by omega, rfl, Own.nil _ _ _, Below.refl _ _⟩
  case round =>
    obtain ⟨k, hk, rfl, hown, hbel⟩ := hrel
    by_cases hlt : k < M
    · have hl := filU_len r k
      have hvl : (vn .i64 (filU r k)).length ≤ 16 := by rw [List.length_map]; omega
      have HN := Lib.hid (filU_next r k)
      have cd := cd k wr (by omega)
      generalize degU k = d at *
      by_cases hd : d ≤ r
      · have di : (d : Int) ≤ (r : Int) := by omega
        have HN2 : Hid (vn .i64 (filU r k) ++ [Value.int .i64 (k : Int)] = vn .i64 (filU r (k + 1))) := by unfold Hid; rw [HN.out, if_pos hd]; simp [vn]
        clear hl
        go_wp2_with (first
          | (go_at_call 26; refine cd.mono ?_; clear cd; rintro e w' ⟨rfl, rfl⟩)
          | (at_builtin; refine app1 el_intU rfl _ _ rfl rfl hown _ _ rfl rfl (by unfold maxLen; omega) (by omega) hbel.size ?_; intro v1 w1 ho1 hb1 _ _))
        rw [HN2.out] at ho1
        go_roundw
        case rel => exact ⟨k + 1, by omega, by go_num, ho1, hbel.trans hb1⟩
        case measure => simp [intOf]; omega
      · have di : ¬ (d : Int) ≤ (r : Int) := by omega
        have HN2 : Hid (vn .i64 (filU r k) = vn .i64 (filU r (k + 1))) := by unfold Hid; rw [HN.out, if_neg hd, List.append_nil]
        rw [HN2.out] at hown
        clear hl hvl
        go_wp2_with (go_at_call 26; refine cd.mono ?_; clear cd; rintro e w' ⟨rfl, rfl⟩)
        go_roundw
        case rel => exact ⟨k + 1, by omega, by go_num, hown, hbel⟩
        case measure => simp [intOf]; omega
    · obtain rfl : k = M := by omega
      have hxs : vn .i64 (filU r k) = (fil16 r k).map fun i : Fin 16 => Value.int .i64 (i.val : Int) := by
        rw [← P1.out]; unfold vn; rw [List.map_map]; rfl
      rw [hxs] at hown
      obtain ⟨A1, c1, e1⟩ := hown.form
      obtain ⟨N, hN⟩ : ∃ N, (fil16 r k).length = N := ⟨_, rfl⟩
      rw [List.length_map, hN] at e1
      have hp2 := P2.out
      rw [hN] at hp2
      have hfl : (fil16 r k).length ≤ k := by have h1 := congrArg List.length P1.out; rw [List.length_map] at h1; rw [h1]; exact filU_len r k
      have hN19 : N ≤ 19 := by omega
      have hN0 : 0 < N := by
        rw [← hN]
        refine List.length_pos_of_mem (a := (0 : Fin 16)) ?_
        unfold fil16
        rw [List.mem_filter]
        refine ⟨List.mem_finRange _, ?_⟩
        have : degU 0 = 0 := by decide
        simp [this]; omega
      have hpl : Hid ((prodU r k).length = N) := by
        unfold Hid
        rw [← hp2, List.length_map, Array.length_toList, insertionSort_sz]; simpa using hN
      subst e1
      obtain ⟨ad1, rfl, _⟩ := hown.reads.cells hN0
      have hsort := own_stable (fun i : Fin 16 => Value.int .i64 (i.val : Int)) (fun _ => rfl) cfU 46 #[] ad1 N c1 (fil16 r k) wr hown hN19 (enters_of Try.func46 (by kernel_rfl) rfl) (fun W hW x y => (mul_less x y W).mono fun e w' ⟨h1, h2⟩ => ⟨h1, 0, h2.symm⟩)
      have e9 : (insertionSort (ltOf cfU) (fil16 r k).toArray 0 N).toList.map (fun i : Fin 16 => Value.int .i64 (i.val : Int)) = vn .i64 (prodU r k) := by
        rw [← hp2]; unfold vn; rw [List.map_map]; rfl
      rw [e9] at hsort
      clear e9 hp2 hfl hxs hN hown
      go_wp2_with (go_at_call 38; refine hsort.mono ?_; clear hsort; rintro e w2 ⟨rfl, ho2, hg2⟩)
      go_ret
      exact ⟨_, N, c1, rfl, ho2, hbel.trans (grown_below hg2 hbel.size (fun q e => by cases e; obtain ⟨g, rfl, hg, _⟩ := ho2.addr; exact hg))⟩
end Go.Proofs.Ytdidahafbcddeaa

import Derived.Test.YtbkgbmnnnlpefaaGrowIdx
import Derived.Test.YtbkgbmnnnlpefaaNear
import Derived.Test.YtbkgbmnnnlpefaaBalls
set_option linter.unusedVariables false
namespace Go.Proofs.Ytbkgbmnnnlpefaa
open Go.RowKit

theorem el_u32g : Elem Try.prog 39 38 (.int .u32 0) 4 := Elem.mk' Try.underlying39 (by kernel_rfl) rfl

def nearTo (d : Int) (k a : Nat) : Bool := decide ((pop (a ^^^ k) : Int) < d)
def growS (d : Int) : Nat → List Nat
  | 0 => []
  | k + 1 => if (growS d k).any (nearTo d k) then growS d k else growS d k ++ [k]
theorem growS_lt (d : Int) (k : Nat) : ∀ x ∈ growS d k, x < k := by
  induction k with
  | zero => simp [growS]
  | succ k ih =>
    intro x hx
    rw [growS] at hx
    split at hx
    · have := ih x hx; omega
    · rcases List.mem_append.1 hx with h | h
      · have := ih x h; omega
      · simp at h; omega
theorem growS_len (d : Int) (k : Nat) : (growS d k).length ≤ k := by
  induction k with
  | zero => simp [growS]
  | succ k ih =>
    rw [growS]; split
    · omega
    · rw [List.length_append]; simp; omega
theorem growS_mono (d : Int) (k j : Nat) : (growS d k).length ≤ (growS d (k + j)).length := by
  induction j with
  | zero => exact Nat.le_refl _
  | succ j ih =>
    refine Nat.le_trans ih ?_
    show _ ≤ (growS d (k + j + 1)).length
    rw [growS.eq_2]; split <;> simp

set_option maxHeartbeats 400000 in
theorem grow_1 (a k : Nat) (d : Int) (p1 p2 : Addr) (w : World) (ha : a < 4294967296) (hk : k < 4294967296) (h1 : w.cell? p1 = some (.int .u32 (k : Int))) (h2 : w.cell? p2 = some (.int .i64 d)) :
    Calls Try.prog 56 #[.int .u32 (a : Int), .pointer (some p1), .pointer (some p2)] w (RetQ w (.bool (nearTo d k a))) := by
  have hxv : a ^^^ k < 4294967296 := Nat.xor_lt_two_pow (n := 32) ha hk
  have hmx := u32_xor_nat a k ha hk
  have cc := fun w => ones_count (a ^^^ k) w hxv
  unfold nearTo
  generalize pop (a ^^^ k) = q at *
  go_enter Try.func56, Try.ntmps56
  go_wp2
  go_quiet ((go_at_call 44; first | exact quietQ (cc _) | exact quietQ2 (cc _)))
  go_wp2
  go_ret
  exact ⟨rfl, _, rfl⟩

set_option maxHeartbeats 1600000 in
theorem book_Grow_1 (n : Nat) (d : Int) (w : World) (hn : n ≤ 12) (hd : ¬ d < 1) (hd2 : ¬ (n : Int) < d) (l : List Nat) (hl : Hid (growS d (2 ^ n) = l)) :
    Calls Try.prog 38 #[.int .i64 (n : Int), .int .i64 d] w (fun e w' => (l.length ≤ 64 ∧ RetR2 w (vn .u32 l) e w') ∨ (64 < l.length ∧ RetE2 w 1 e w')) := by
  have hp12 := pow_le12 hn
  have c1 := ball_Check n none 0 0 [] 0 (w.alloc (.cells #[.int .i64 d] 3)) Reads.none_ (bitsErr_ok hn (by simp)) (by unfold maxLen; omega) (by simp)
  have hcp : (w.alloc (.cells #[.int .i64 d] 3)).cell? ⟨w.heap.size, 0, none⟩ = some (.int .i64 d) := cell_one_new _ _ _ 0 _ rfl
  have hbel : Below w.heap.size w (w.alloc (.cells #[.int .i64 d] 3)) := (Below.refl _ _).alloc (Nat.le_refl _) _
  obtain ⟨p, hp⟩ : ∃ p, p = 2 ^ n := ⟨_, rfl⟩
  have es := shl_int hn
  rw [← hp] at es hp12
  have HP := Lib.hid hp
  have d1 : decide (d < 1) = false := decide_eq_false hd
  have d2 : decide ((n : Int) < d) = false := decide_eq_false hd2
  clear hp
  go_enter Try.func38, Try.ntmps38
  go_wp2_with (go_at_call 49; refine c1.mono ?_; rintro e w' ⟨rfl, rfl⟩)
  rw [es]
  generalize hW : w.alloc (.cells #[.int .i64 d] 3) = W at *
  have hsz : W.heap.size = w.heap.size + 1 := by rw [← hW]; simp
  clear hW c1
  have hown0 : Own W W.heap.size 38 (.slice none 0 0) (vn .u32 (growS d 0)) := Own.nil _ _ _
  generalize hpd : (⟨w.heap.size, 0, none⟩ : Addr) = pd at *
  have hpdb : pd.block < W.heap.size := by rw [← hpd, hsz]; simp
  go_loopw [7, 8, 23] (fun v x8 i wr => ∃ j : Nat, j ≤ p ∧ i = .int .u32 j ∧ Own wr W.heap.size 38 v (vn .u32 (growS d j)) ∧ Below W.heap.size W wr ∧ (growS d j).length ≤ 64) (fun _ _ i _ => p - (intOf i).toNat)
  case atStart => exact ⟨0, by omega, rfl, Own.nil _ _ _, Below.refl _ _, by simp [growS]⟩
  case round =>
    obtain ⟨j, hj, rfl, hown, hb, h64⟩ := hrel
    by_cases hlt : j < p
    · obtain ⟨A2, c2, e2⟩ := hown.form
      obtain ⟨m, hm⟩ : ∃ m, m = (vn .u32 (growS d j)).length := ⟨_, rfl⟩
      rw [← hm] at e2
      subst e2
      have hml : m = (growS d j).length := by rw [hm, List.length_map]
      have hm64 : m ≤ 64 := by omega
      have hB := hb.size
      have hj32 : j < 4294967296 := by omega
      have hcd : (wr.alloc (.cells #[.int .u32 (j : Int)] 38)).cell? pd = some (.int .i64 d) := by
        rw [World.cell?_alloc_lt _ _ _ (by omega), hb.cell hpdb]; exact hcp
      have hcj : (wr.alloc (.cells #[.int .u32 (j : Int)] 38)).cell? ⟨wr.heap.size, 0, none⟩ = some (.int .u32 (j : Int)) := cell_one_new _ _ _ 0 _ rfl
      have hr2 : Reads (wr.alloc (.cells #[.int .u32 (j : Int)] 38)) (wr.alloc (.cells #[.int .u32 (j : Int)] 38)).heap.size A2 m (vn .u32 (growS d j)) := (hown.reads.alloc (Nat.le_refl _) _).more (by simp)
      have hown2 := hown.alloc (.cells #[.int .u32 (j : Int)] 38)
      have hb2 : Below W.heap.size W (wr.alloc (.cells #[.int .u32 (j : Int)] 38)) := hb.alloc hB _
      have cg := fun b hbb => contains_grow ⟨wr.heap.size, 0, none⟩ pd A2 m c2 (vn .u32 (growS d j)) (fun i => nearTo d j ((growS d j).getD i 0)) b (wr.alloc (.cells #[.int .u32 (j : Int)] 38)) hr2 (by unfold maxLen; omega) (fun i u mm hu => by
        rw [List.getElem?_map] at hu
        obtain ⟨x, hx, rfl⟩ := Option.map_eq_some_iff.1 hu
        have := growS_lt d j x (mem_at hx)
        simp only [List.getD, hx, Option.getD_some]
        exact grow_1 x j d _ _ _ (by omega) hj32 hcj hcd) hbb
      have hany : anyTo (fun i => nearTo d j ((growS d j).getD i 0)) m = (growS d j).any (nearTo d j) := by
        rw [hml]; exact anyTo_list _ _ _ (fun k x hx => by simp only [List.getD, hx, Option.getD_some])
      have HN : Hid (growS d (j + 1) = if (growS d j).any (nearTo d j) then growS d j else growS d j ++ [j]) := rfl
      rw [← hany] at HN
      have HM := Lib.hid hm
      have HML := Lib.hid hml
      clear hml hm
      generalize hW2 : wr.alloc (.cells #[.int .u32 (j : Int)] 38) = W2 at *
      have hB2 := hb2.size
      cases hq : anyTo (fun i => nearTo d j ((growS d j).getD i 0)) m
      · have cc := cg false hq
        have HN' : Hid (growS d (j + 1) = growS d j ++ [j]) := by have := HN.out; rw [hq, if_neg (by simp)] at this; exact this
        clear hq HN cg hany
        have HL : Hid ((vn .u32 (growS d j) ++ [Value.int .u32 (j : Int)]).length = m + 1) := by unfold Hid; rw [List.length_append, ← HM.out]; rfl
        have HL2 : Hid ((growS d (j + 1)).length = m + 1) := by unfold Hid; rw [HN'.out, List.length_append, ← HML.out]; rfl
        by_cases h65 : m + 1 ≤ 64
        · go_wp2_with (first | (go_at_call 55; refine cc.mono ?_; rintro e w' ⟨rfl, m0, rfl⟩; have hown3 := hown2.drewN m0; have hB3 : W.heap.size ≤ (W2.drewN m0).heap.size := hB2) | (at_builtin; refine app1 el_u32g rfl _ _ rfl rfl hown3 _ _ rfl rfl (by rw [← HM.out]; unfold maxLen; omega) (by rw [← HM.out]; omega) hB3 ?_; intro v1 w1 ho1 hb1 _ _; obtain ⟨A3, c3, e3⟩ := ho1.form; rw [HL.out] at e3; subst e3))
          go_roundw
          case rel => exact ⟨j + 1, by omega, by go_num, by rw [HN'.out]; simpa [vn] using ho1, (below_drewN hb2 m0).trans hb1, by rw [HL2.out]; omega⟩
          case measure => simp only [intOf]; omega
        · have HB : Hid (64 < l.length) := by
            have := growS_mono d (j + 1) (p - (j + 1))
            rw [show j + 1 + (p - (j + 1)) = p from by omega, HP.out, hl.out, HL2.out] at this
            unfold Hid; omega
          go_wp2_with (first | (go_at_call 55; refine cc.mono ?_; rintro e w' ⟨rfl, m0, rfl⟩; have hown3 := hown2.drewN m0; have hB3 : W.heap.size ≤ (W2.drewN m0).heap.size := hB2) | (at_builtin; refine app1 el_u32g rfl _ _ rfl rfl hown3 _ _ rfl rfl (by rw [← HM.out]; unfold maxLen; omega) (by rw [← HM.out]; omega) hB3 ?_; intro v1 w1 ho1 hb1 _ _; obtain ⟨A3, c3, e3⟩ := ho1.form; rw [HL.out] at e3; subst e3))
          go_ret2
          refine .inr ⟨HB.out, rfl, hbel.trans ?_⟩
          exact ((below_drewN hb2 m0).trans hb1).mono (by omega)
      · have cc := cg true hq
        have HN' : Hid (growS d (j + 1) = growS d j) := by have := HN.out; rw [hq, if_pos rfl] at this; exact this
        clear hq HN cg hany
        go_wp2_with (go_at_call 55; refine cc.mono ?_; rintro e w' ⟨rfl, m0, rfl⟩)
        go_roundw
        case rel => exact ⟨j + 1, by omega, by go_num, by rw [HN'.out]; exact hown2.drewN m0, below_drewN hb2 m0, by rw [HN'.out]; exact h64⟩
        case measure => simp only [intOf]; omega
    · obtain rfl : j = p := by omega
      obtain ⟨A2, c2, e⟩ := hown.form
      obtain ⟨m, hm⟩ : ∃ m, m = (vn .u32 (growS d j)).length := ⟨_, rfl⟩
      rw [← hm] at e
      subst e
      have HM := Lib.hid hm
      have hm64 : m ≤ 64 := by rw [hm, List.length_map]; exact h64
      clear hm
      go_wp2
      go_ret2
      have hE : growS d j = l := by rw [HP.out, hl.out]
      refine .inl ⟨by rw [← hE]; exact h64, A2, m, c2, rfl, by rw [← hE]; exact hown.reads, by unfold maxLen; omega, hbel.trans (hb.mono (by omega))⟩
def farAll (d : Int) (j : Nat) (l : List Nat) : Bool := l.all fun a => decide (d ≤ (pop (a ^^^ j) : Int))
theorem any_far (d : Int) (j : Nat) (l : List Nat) : l.any (nearTo d j) = !farAll d j l := by
  induction l with
  | nil => rfl
  | cons a l ih =>
    unfold farAll at *
    rw [List.any_cons, List.all_cons, ih, Bool.not_and]
    congr 1
    unfold nearTo
    by_cases h : d ≤ (pop (a ^^^ j) : Int)
    · simp [h]
    · simp [h]; omega
theorem far_next {d : Int} {j : Nat} {l : List Nat} {k x : Nat} (hx : l[k]? = some x) : farAll d j (l.take (k + 1)) = (farAll d j (l.take k) && decide (d ≤ (pop (x ^^^ j) : Int))) := by
  unfold farAll; rw [take_next hx, List.all_append]; simp

set_option maxHeartbeats 1600000 in
theorem ref_Grown (n : Nat) (d : Int) (w : World) (hn : n ≤ 12) (l : List Nat) (hl : Hid (growS d (2 ^ n) = l)) :
    Calls Try.prog 39 #[.int .i64 (n : Int), .int .i64 d] w (RetR w (vn .u32 l)) := by
  have hp12 := pow_le12 hn
  obtain ⟨p, hp⟩ : ∃ p, p = 2 ^ n := ⟨_, rfl⟩
  have es := shl_int hn
  rw [← hp] at es hp12
  have HP := Lib.hid hp
  clear hp
  go_enter Try.func39, Try.ntmps39
  go_wp2
  go_loopw [5, 6] (fun v i wr => ∃ j : Nat, j ≤ p ∧ i = .int .u32 j ∧ Own wr w.heap.size 38 v (vn .u32 (growS d j)) ∧ Below w.heap.size w wr) (fun _ i _ => p - (intOf i).toNat)
  case atStart => exact ⟨0, by omega, rfl, Own.nil _ _ _, Below.refl _ _⟩
  case round =>
    obtain ⟨j, hj, rfl, hown, hb⟩ := hrel
    obtain ⟨A2, c2, e2⟩ := hown.form
    obtain ⟨m, hm⟩ : ∃ m, m = (vn .u32 (growS d j)).length := ⟨_, rfl⟩
    rw [← hm] at e2
    subst e2
    have hml : m = (growS d j).length := by rw [hm, List.length_map]
    have hmp : m ≤ 4096 := by have := growS_len d j; omega
    have HM := Lib.hid hm
    have HML := Lib.hid hml
    clear hm hml
    have hB := hb.size
    by_cases hlt : j < p
    · have hj32 : j < 4294967296 := by omega
      have HN : Hid (growS d (j + 1) = if (growS d j).any (nearTo d j) then growS d j else growS d j ++ [j]) := rfl
      have hrd := hown.reads
      go_wp2
      rw [es]
      go_wp2
      go_loop [7, 19] (fun b i => ∃ k : Nat, k ≤ m ∧ i = .int .i64 k ∧ b = .bool (farAll d j ((growS d j).take k))) (fun _ i => m - (intOf i).toNat)
      case atStart => exact ⟨0, by omega, rfl, by simp [farAll]⟩
      case round =>
        obtain ⟨k, hk, rfl, rfl⟩ := hrel
        by_cases hlt2 : k < m
        · obtain ⟨ad, x, e, hb2, hx, hcx⟩ := hrd.nat_at hlt2
          subst e
          have hxj := growS_lt d j x (mem_at hx)
          have cc := ref_Apart x j (pop (x ^^^ j)) wr (by omega) hj32 rfl
          have HF := Lib.hid (far_next (d := d) (j := j) hx)
          clear hx
          generalize pop (x ^^^ j) = q at *
          cases hf : farAll d j ((growS d j).take k)
          · rw [hf] at HF
            go_wp2
            go_round
            case rel => exact ⟨k + 1, by omega, by go_num, by rw [HF.out]; rfl⟩
            case measure => simp only [intOf]; omega
          · rw [hf] at HF
            go_wp2_with (go_at_call 25; refine cc.mono ?_; rintro e w' ⟨rfl, rfl⟩)
            go_round
            case rel => exact ⟨k + 1, by omega, by go_num, by rw [HF.out]; simp⟩
            case measure => simp only [intOf]; omega
        · obtain rfl : k = m := by omega
          have hfa : farAll d j ((growS d j).take k) = !((growS d j).any (nearTo d j)) := by
            rw [any_far, Bool.not_not, List.take_of_length_le (Nat.le_of_eq HML.out.symm)]
          rw [hfa]
          cases hq : (growS d j).any (nearTo d j)
          · have HN' : Hid (growS d (j + 1) = growS d j ++ [j]) := by have := HN.out; rw [hq, if_neg (by simp)] at this; exact this
            clear hq HN hfa
            go_wp2_with (at_builtin; refine app1 el_u32g rfl _ _ rfl rfl hown _ _ rfl rfl (by rw [← HM.out]; unfold maxLen; omega) (by rw [← HM.out]; omega) hB ?_; intro v1 w1 ho1 hb1 _ _)
            go_roundw
            case rel => exact ⟨j + 1, by omega, by go_num, by rw [HN'.out]; simpa [vn] using ho1, hb.trans hb1⟩
            case measure => simp only [intOf]; omega
          · have HN' : Hid (growS d (j + 1) = growS d j) := by have := HN.out; rw [hq, if_pos rfl] at this; exact this
            clear hq HN hfa
            go_wp2
            go_roundw
            case rel => exact ⟨j + 1, by omega, by go_num, by rw [HN'.out]; exact hown, hb⟩
            case measure => simp only [intOf]; omega
    · obtain rfl : j = p := by omega
      go_wp2
      rw [es]
      go_wp2
      go_ret
      have hE : growS d j = l := by rw [HP.out, hl.out]
      exact ⟨A2, m, c2, rfl, by rw [← hE]; exact hown.reads, by unfold maxLen; omega, hb⟩

def growErr (n d : Int) : Int := if n < 0 ∨ 12 < n then 1 else if d < 1 ∨ n < d then 4 else 0
set_option maxHeartbeats 800000 in
theorem book_Grow_err (n d z : Int) (w : World) (hz : Hid (growErr n d = z)) (h0 : z ≠ 0) :
    Calls Try.prog 38 #[.int .i64 n, .int .i64 d] w (RetE2 w z) := by
  have c0 := fun b hb => ball_Check n none 0 0 [] b (w.alloc (.cells #[.int .i64 d] 3)) (Reads.none_) hb (by unfold maxLen; omega) (by simp)
  have hcp : (w.alloc (.cells #[.int .i64 d] 3)).cell? ⟨w.heap.size, 0, none⟩ = some (.int .i64 d) := cell_one_new _ _ _ 0 _ rfl
  have hbel : Below w.heap.size w (w.alloc (.cells #[.int .i64 d] 3)) := (Below.refl _ _).alloc (Nat.le_refl _) _
  by_cases h1 : n < 0 ∨ 12 < n
  · have c1 := c0 1 (bitsErr_n [] h1)
    have HZ : Hid (z = 1) := by unfold Hid; rw [← hz.out, growErr, if_pos h1]
    clear c0 h1
    go_enter Try.func38, Try.ntmps38
    go_wp2_with (go_at_call 49; refine c1.mono ?_; rintro e w' ⟨rfl, rfl⟩)
    go_ret2
    exact ⟨by rw [HZ.out]; rfl, hbel⟩
  · have c1 := c0 0 (by simp [Hid, bitsErr, h1])
    have h2 : d < 1 ∨ n < d := by
      by_cases h : d < 1 ∨ n < d
      · exact h
      · exfalso; apply h0; rw [← hz.out, growErr, if_neg h1, if_neg h]
    have HZ : Hid (z = 4) := by unfold Hid; rw [← hz.out, growErr, if_neg h1, if_pos h2]
    clear c0 h1
    by_cases h3 : d < 1
    all_goals
      go_enter Try.func38, Try.ntmps38
      go_wp2_with (go_at_call 49; refine c1.mono ?_; rintro e w' ⟨rfl, rfl⟩)
      go_ret2
      exact ⟨by rw [HZ.out]; rfl, hbel⟩

set_option maxHeartbeats 1600000 in
theorem BookGrows_walk (nb d : Int) (w : World) (_ : (Lit.int .i64 nb).wf = true) (_ : (Lit.int .i64 d).wf = true) :
    Calls Try.prog 11 #[.int .i64 nb, .int .i64 d] w (LawTrue w) := by
  have cb := fun (w : World) (b : Int) (hb : Hid (bitsErr nb [] = b)) => ref_BitsCheck nb none 0 0 [] b w Reads.none_ hb (by unfold maxLen; omega) (by simp)
  by_cases h1 : nb < 0 ∨ 12 < nb
  · have cb := fun w => cb w 1 (bitsErr_n [] h1)
    have c1 := book_Grow_err nb d 1 w (by unfold Hid; rw [growErr, if_pos h1]) (by omega)
    clear h1
    go_enter Try.func11, Try.ntmps11
    go_wp2_with (first | (go_at_call 38; refine c1.mono ?_; rintro e w1 ⟨rfl, hb1⟩) | (go_at_call 24; refine (cb _).mono ?_; rintro e w' ⟨rfl, rfl⟩))
    go_ret
    exact ⟨rfl, hb1⟩
  · have cb := fun w => cb w 0 (by simp [Hid, bitsErr, h1])
    by_cases h2 : d < 1 ∨ nb < d
    · have c1 := book_Grow_err nb d 4 w (by unfold Hid; rw [growErr, if_neg h1, if_pos h2]) (by omega)
      clear h1
      by_cases h3 : d < 1
      all_goals
        go_enter Try.func11, Try.ntmps11
        go_wp2_with (first | (go_at_call 38; refine c1.mono ?_; rintro e w1 ⟨rfl, hb1⟩) | (go_at_call 24; refine (cb _).mono ?_; rintro e w' ⟨rfl, rfl⟩))
        go_ret
        exact ⟨rfl, hb1⟩
    · have h0 : 0 ≤ nb := by omega
      obtain ⟨n, rfl⟩ := Int.eq_ofNat_of_zero_le h0
      have hn : n ≤ 12 := by omega
      obtain ⟨l, hl⟩ : ∃ l, growS d (2 ^ n) = l := ⟨_, rfl⟩
      have c1 := book_Grow_1 n d w hn (by omega) (by omega) l hl
      have c3 := fun w => ref_Grown n d w hn l hl
      have d1 : decide (d < 1) = false := decide_eq_false (by omega)
      have d2 : decide ((n : Int) < d) = false := decide_eq_false (by omega)
      clear h1 h2 hl
      by_cases h64 : l.length ≤ 64
      · have c1' : Calls Try.prog 38 #[.int .i64 (n : Int), .int .i64 d] w (RetR2 w (vn .u32 l)) := c1.mono fun e w' h => h.elim (·.2) (fun h => absurd h64 (by omega))
        clear c1
        go_enter Try.func11, Try.ntmps11
        go_wp2_with (first | (go_at_call 38; refine c1'.mono ?_; rintro e w1 ⟨A1, n1, k1, rfl, hr1, hm1, hb1⟩) | (go_at_call 24; refine (cb _).mono ?_; rintro e w' ⟨rfl, rfl⟩) | (go_at_call 39; refine (c3 w1).mono ?_; rintro e w2 ⟨A2, n2, k2, rfl, hr2, hm2, hb2⟩; have hn2 : n2 ≤ 64 := (by rw [← hr2.nat_len]; exact h64)) | (go_at_call 39; refine (c3 w2).mono ?_; rintro e w3 ⟨A3, n3, k3, rfl, hr3, hm3, hb3⟩; have c4 := ref_Words A1 A3 n1 n3 k1 k3 l l true w3 ((hr1.below hb2).below (hb3.mono hb2.size)) hr3 hm1 (by simp [Hid])) | (go_at_call 26; refine c4.mono ?_; rintro e w4 ⟨rfl, m4, rfl⟩))
        go_ret
        exact ⟨rfl, below_drewN (hb1.trans ((hb2.mono hb1.size).trans (hb3.mono (Nat.le_trans hb1.size hb2.size)))) _⟩
      · have c1' : Calls Try.prog 38 #[.int .i64 (n : Int), .int .i64 d] w (RetE2 w 1) := c1.mono fun e w' h => h.elim (fun h => absurd h.1 h64) (·.2)
        have h65 : 64 < l.length := by omega
        clear c1 h64
        go_enter Try.func11, Try.ntmps11
        go_wp2_with (first | (go_at_call 38; refine c1'.mono ?_; rintro e w1 ⟨rfl, hb1⟩) | (go_at_call 24; refine (cb _).mono ?_; rintro e w' ⟨rfl, rfl⟩) | (go_at_call 39; refine (c3 w1).mono ?_; rintro e w2 ⟨A2, n2, k2, rfl, hr2, hm2, hb2⟩; have hn2 : 64 < n2 := (by rw [← hr2.nat_len]; exact h65)))
        go_ret
        exact ⟨rfl, hb1.trans (hb2.mono hb1.size)⟩
end Go.Proofs.Ytbkgbmnnnlpefaa

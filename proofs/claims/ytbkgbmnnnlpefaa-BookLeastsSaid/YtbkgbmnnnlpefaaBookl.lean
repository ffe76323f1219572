import Derived.Test.YtbkgbmnnnlpefaaBook
set_option linter.unusedVariables false
namespace Go.Proofs.Ytbkgbmnnnlpefaa
open Go.RowKit

/-! ### the least distance: plain words -/
def inF (f : Int → Int → Int) (x : Nat) (acc : Int) (l : List Nat) : Int := l.foldl (fun a y => f a (pop (x ^^^ y))) acc
def outF (f : Int → Int → Int) (a0 : Int) (l : List Nat) : Nat → Int
  | 0 => a0
  | k + 1 => inF f (l.getD k 0) (outF f a0 l k) (l.take k)
theorem inF_next {f : Int → Int → Int} {x : Nat} {acc : Int} {l : List Nat} {j y : Nat} (h : l[j]? = some y) : inF f x acc (l.take (j + 1)) = f (inF f x acc (l.take j)) (pop (x ^^^ y)) := by
  rw [take_next h]; unfold inF; rw [List.foldl_append]; rfl
theorem outF_next {f : Int → Int → Int} {a0 : Int} {l : List Nat} {k x : Nat} (h : l[k]? = some x) : outF f a0 l (k + 1) = inF f x (outF f a0 l k) (l.take k) := by
  rw [outF]; simp only [List.getD, h, Option.getD_some]
def fp (a d : Int) : Int := min a d
def fr (a d : Int) : Int := if a < 0 ∨ d < a then d else a
/-- how the two agree -/
def LRel (n : Int) (p r : Int) : Prop := (r < 0 ∧ p = n + 1) ∨ (0 ≤ r ∧ r ≤ n ∧ p = r)
theorem pop_le_n {m x : Nat} (hm : m ≤ 32) (h : x < 2 ^ m) : pop x ≤ m := by
  have z : ∀ f, Lib.popAux f 0 = 0 := by
    intro f; induction f with
    | zero => rfl
    | succ f ih => rw [Lib.popAux]; simpa using ih
  unfold pop
  rw [show 32 = m + (32 - m) from by omega, popAux_add, Nat.div_eq_of_lt h, z]
  have := popAux_le m x; omega
theorem lrel_step {n p r d : Int} (h : LRel n p r) (h0 : 0 ≤ d) (h1 : d ≤ n) : LRel n (fp p d) (fr r d) ∧ 0 ≤ fr r d := by
  unfold LRel fp fr at *
  rcases h with ⟨h2, h3⟩ | ⟨h2, h3, h4⟩
  · rw [if_pos (.inl h2)]; exact ⟨.inr ⟨h0, h1, by omega⟩, h0⟩
  · by_cases hd : d < r
    · rw [if_pos (.inr hd)]; exact ⟨.inr ⟨h0, h1, by omega⟩, h0⟩
    · rw [if_neg (by omega)]; exact ⟨.inr ⟨h2, h3, by omega⟩, h2⟩
theorem lrel_in {m : Nat} (hm : m ≤ 12) (x : Nat) (hx : x < 2 ^ m) (l : List Nat) (hl : ∀ y ∈ l, y < 2 ^ m) (p r : Int) (h : LRel m p r) : LRel m (inF fp x p l) (inF fr x r l) := by
  induction l generalizing p r with
  | nil => exact h
  | cons y l ih =>
    have hy := hl y (List.mem_cons_self ..)
    have := pop_le_n (m := m) (by omega) (Nat.xor_lt_two_pow hx hy)
    exact ih (fun z hz => hl z (List.mem_cons_of_mem _ hz)) _ _ (lrel_step h (by omega) (by omega)).1
theorem lrel_out {m : Nat} (hm : m ≤ 12) (l : List Nat) (hl : ∀ y ∈ l, y < 2 ^ m) (k : Nat) (hk : k ≤ l.length) : LRel m (outF fp (m + 1) l k) (outF fr (-1) l k) := by
  induction k with
  | zero => exact .inl ⟨by simp [outF], rfl⟩
  | succ k ih =>
    have hx : l[k]? = some (l[k]'(by omega)) := List.getElem?_eq_getElem (by omega)
    rw [outF_next hx, outF_next hx]
    exact lrel_in hm _ (hl _ (List.getElem_mem _)) _ (fun y hy => hl y (List.mem_of_mem_take hy)) _ _ (ih (by omega))
theorem fr_nonneg {r d : Int} (h : 0 ≤ r) (hd : 0 ≤ d) : 0 ≤ fr r d := by unfold fr; split <;> omega
theorem fr_nonneg' {r d : Int} (h : r < 0) (hd : 0 ≤ d) : 0 ≤ fr r d := by unfold fr; rw [if_pos (.inl h)]; exact hd
theorem inF_nonneg {x : Nat} (l : List Nat) (r : Int) (h : 0 ≤ r) : 0 ≤ inF fr x r l := by
  induction l generalizing r with
  | nil => exact h
  | cons y l ih => exact ih _ (fr_nonneg h (by omega))
theorem outF_few (l : List Nat) (k : Nat) (hk : k ≤ 1) : outF fr (-1) l k = -1 := by
  match k with
  | 0 => rfl
  | 1 => rfl
theorem outF_many (l : List Nat) (k : Nat) (hk : 2 ≤ k) (hl : k ≤ l.length) : 0 ≤ outF fr (-1) l k := by
  induction k with
  | zero => omega
  | succ k ih =>
    rw [outF]
    by_cases h : 2 ≤ k
    · exact inF_nonneg _ _ (ih h (by omega))
    · obtain rfl : k = 1 := by omega
      have h1 : l[0]? = some (l[0]'(by omega)) := List.getElem?_eq_getElem (by omega)
      rw [show l.take 1 = l.take 0 ++ [l[0]'(by omega)] from take_next h1]
      exact fr_nonneg' (r := -1) (d := (pop (l.getD 1 0 ^^^ l[0]'(by omega)) : Nat)) (by omega) (Int.natCast_nonneg _)

set_option maxHeartbeats 1600000 in
theorem book_Least_ok (m : Nat) (A : Option Addr) (n c : Nat) (l : List Nat) (a b : Int) (w : World) (h : Reads w w.heap.size A n (vn .u32 l)) (hm : m ≤ 12) (hl : ∀ x ∈ l, x < 2 ^ m) (hw : ∀ x ∈ l, x < 4294967296) (hc : n ≤ c) (h64 : n ≤ 64) (hk : Hid (bookErr m l = 0))
    (hr : Hid ((if outF fp (m + 1) l n > m then ((0 : Int), (5 : Int)) else (outF fp (m + 1) l n, 0)) = (a, b))) :
    Calls Try.prog 41 #[.int .i64 (m : Int), .slice A n c] w (RetQ w (.tuple #[.int .i64 a, .int .i64 b])) := by
  have H := Lib.hid h.nat_len
  have c1 := book_Check m A n c l 0 w h hw hc hk
  go_enter Try.func41, Try.ntmps41
  go_wp2_with (go_at_call 33; refine c1.mono ?_; rintro e w' ⟨rfl, rfl⟩)
  go_loopw [7, 22] (fun v i wr => ∃ (k : Nat) (z : Int), k ≤ n ∧ i = .int .i64 k ∧ v = .int .i64 z ∧ 0 ≤ z ∧ z ≤ m + 1 ∧ Qt w wr ∧ Hid (outF fp (m + 1) l k = z)) (fun _ i _ => n - (intOf i).toNat)
  case atStart => exact ⟨0, m + 1, by omega, rfl, rfl, by omega, by omega, Qt.refl _, rfl⟩
  case round =>
    obtain ⟨k, z, hk2, rfl, rfl, hz0, hz1, hq, hrel⟩ := hrel
    have hrd := h.qt hq
    by_cases hlt : k < n
    · obtain ⟨ad, x, e, hb, hx, hcx⟩ := hrd.nat_at hlt
      subst e
      have hx32 := hw x (mem_at hx)
      have hr2 := hrd.takeN (k := k) (by omega)
      have hcap : k ≤ c := by omega
      have HS := Lib.hid (outF_next (f := fp) (a0 := (m : Int) + 1) hx)
      clear hx
      go_wp2
      obtain ⟨wo, rfl⟩ : ∃ wo : World, wo = wr := ⟨_, rfl⟩
      go_loopw [7, 31] (fun v i wi => ∃ (j : Nat) (y : Int), j ≤ k ∧ i = .int .i64 j ∧ v = .int .i64 y ∧ 0 ≤ y ∧ y ≤ m + 1 ∧ Qt wo wi ∧ Hid (inF fp x z ((l.take k).take j) = y)) (fun _ i _ => k - (intOf i).toNat)
      case atStart => exact ⟨0, z, by omega, rfl, rfl, hz0, hz1, Qt.refl _, rfl⟩
      case round =>
        obtain ⟨j, y, hj, rfl, rfl, hy0, hy1, hq2, hrel2⟩ := hrel
        have hr3 := hr2.qt hq2
        by_cases hlt2 : j < k
        · obtain ⟨ad2, v, e2, hb2, hv, hcv⟩ := hr3.nat_at hlt2
          injection e2 with e2
          subst e2
          have hv32 := hw v (List.mem_of_mem_take (mem_at hv))
          have hxv : x ^^^ v < 4294967296 := Nat.xor_lt_two_pow (n := 32) hx32 hv32
          have hmx := u32_xor_nat x v hx32 hv32
          have cc := fun w => ones_count (x ^^^ v) w hxv
          have HN := Lib.hid (inF_next (f := fp) (x := x) (acc := z) hv)
          have hpl := pop_le (x ^^^ v)
          clear hv hxv
          generalize pop (x ^^^ v) = q at *
          have HF : Hid (fp y q = if (q : Int) < y then (q : Int) else y) := by unfold Hid fp; omega
          have hf0 : 0 ≤ fp y q := by unfold fp; omega
          have hf1 : fp y q ≤ m + 1 := by unfold fp; omega
          go_wp2_with (go_at_call 44; refine (cc _).mono ?_; rintro e w' ⟨rfl, m0, rfl⟩)
          go_roundw
          case rel => exact ⟨j + 1, fp y q, by omega, by go_num, by rw [HF.out], hf0, hf1, hq2.drewN m0, by unfold Hid; rw [HN.out, hrel2.out]⟩
          case measure => simp only [intOf]; omega
        · obtain rfl : j = k := by omega
          have HZ : Hid (outF fp (m + 1) l (j + 1) = y) := by
            have h2 := hrel2.out
            rw [List.take_of_length_le (List.length_take_le _ _)] at h2
            unfold Hid; rw [HS.out, hrel.out, h2]
          go_wp2
          go_roundw
          case rel => exact ⟨j + 1, y, by omega, by go_num, rfl, hy0, hy1, hq.trans hq2, HZ⟩
          case measure => simp only [intOf]; omega
    · obtain rfl : k = n := by omega
      have hr2 := hr.out
      rw [hrel.out] at hr2
      by_cases hz : z > m
      · have HA := Lib.hid hr2
        clear hr2
        go_wp2
        go_ret2
        exact ⟨ret_ii (by rw [← HA.out, if_pos hz]), hq⟩
      · have HA := Lib.hid hr2
        clear hr2
        go_wp2
        go_ret2
        exact ⟨ret_ii (by rw [← HA.out, if_neg (by omega)]), hq⟩

set_option maxHeartbeats 400000 in
theorem book_Least_err (nb : Int) (A : Option Addr) (n c : Nat) (l : List Nat) (z : Int) (w : World) (h : Reads w w.heap.size A n (vn .u32 l)) (hw : ∀ x ∈ l, x < 4294967296) (hc : n ≤ c) (hk : Hid (bookErr nb l = z)) (hz : (z != 0) = true) :
    Calls Try.prog 41 #[.int .i64 nb, .slice A n c] w (Ret w (.tuple #[.int .i64 0, .int .i64 z])) := by
  have c1 := book_Check nb A n c l z w h hw hc hk
  go_enter Try.func41, Try.ntmps41
  go_wp2_with (go_at_call 33; refine c1.mono ?_; rintro e w' ⟨rfl, rfl⟩)
  go_ret2
  exact ⟨rfl, rfl⟩

set_option maxHeartbeats 1600000 in
theorem ref_Least (m : Nat) (A : Option Addr) (n c : Nat) (l : List Nat) (b : Int) (w : World) {B : Nat} (h : Reads w B A n (vn .u32 l)) (hm : m ≤ 12) (hl : ∀ x ∈ l, x < 2 ^ m) (hw : ∀ x ∈ l, x < 4294967296) (h64 : n ≤ 64)
    (hr : Hid (outF fr (-1) l n = b)) :
    Calls Try.prog 42 #[.slice A n c] w (RetQ w (.int .i64 b)) := by
  have H := Lib.hid h.nat_len
  go_enter Try.func42, Try.ntmps42
  go_wp2
  go_loopw [3, 4] (fun v i wr => ∃ (k : Nat) (z : Int), k ≤ n ∧ i = .int .i64 k ∧ v = .int .i64 z ∧ -1 ≤ z ∧ z ≤ 32 ∧ Qt w wr ∧ Hid (outF fr (-1) l k = z)) (fun _ i _ => n - (intOf i).toNat)
  case atStart => exact ⟨0, -1, by omega, rfl, rfl, by omega, by omega, Qt.refl _, rfl⟩
  case round =>
    obtain ⟨k, z, hk2, rfl, rfl, hz0, hz1, hq, hrel⟩ := hrel
    have hrd := h.qt hq
    by_cases hlt : k < n
    · obtain ⟨ad, x, e, hb, hx, hcx⟩ := hrd.nat_at hlt
      subst e
      have hx32 := hw x (mem_at hx)
      have HS := Lib.hid (outF_next (f := fr) (a0 := (-1 : Int)) hx)
      clear hx
      go_wp2
      obtain ⟨wo, rfl⟩ : ∃ wo : World, wo = wr := ⟨_, rfl⟩
      go_loopw [3, 5] (fun v i wi => ∃ (j : Nat) (y : Int), j ≤ k ∧ i = .int .i64 j ∧ v = .int .i64 y ∧ -1 ≤ y ∧ y ≤ 32 ∧ Qt wo wi ∧ Hid (inF fr x z ((l.take k).take j) = y)) (fun _ i _ => k - (intOf i).toNat)
      case atStart => exact ⟨0, z, by omega, rfl, rfl, hz0, hz1, Qt.refl _, rfl⟩
      case round =>
        obtain ⟨j, y, hj, rfl, rfl, hy0, hy1, hq2, hrel2⟩ := hrel
        have hr3 := hrd.qt hq2
        have hcx2 := (hq2.cell (ad.add k)).trans hcx
        by_cases hlt2 : j < k
        · obtain ⟨ad2, v, e2, hb2, hv, hcv⟩ := hr3.nat_at (k := j) (by omega)
          injection e2 with e2
          subst e2
          have hv32 := hw v (mem_at hv)
          have hv' : (l.take k)[j]? = some v := by rw [List.getElem?_take, if_pos hlt2]; exact hv
          have HN := Lib.hid (inF_next (f := fr) (x := x) (acc := z) hv')
          have hpl := pop_le (x ^^^ v)
          obtain ⟨q, hqd⟩ : ∃ q, q = pop (x ^^^ v) := ⟨_, rfl⟩
          have cc := fun w => ref_Apart x v q w hx32 hv32 (by unfold Hid; rw [hqd])
          rw [← hqd] at HN hpl
          have i1 : (0 : Int) ≤ (j : Int) := by omega
          have i2 : (j : Int) < (n : Int) := by omega
          have i3 : (0 : Int) ≤ (k : Int) := by omega
          have i4 : (k : Int) < (n : Int) := by omega
          clear hv hv' hqd hr3 hrd hcx
          generalize hwr : wr = wx at *
          clear hwr
          by_cases hneg : y < 0
          · have d1 : decide (y < 0) = true := decide_eq_true hneg
            have HF : Hid (fr y q = q) := by unfold Hid fr; rw [if_pos (.inl hneg)]
            clear hneg
            go_wp2
            go_quiet (fail)
            go_wp2
            go_quiet ((go_at_call 25; first | exact quietR (cc _) | exact quietR2 (cc _)))
            go_wp2
            go_roundw
            case rel => exact ⟨j + 1, q, by omega, by go_num, rfl, by omega, by omega, by first | exact (hq2.drewN _).drewN _ | exact hq2.drewN _, by unfold Hid; rw [HN.out, hrel2.out, HF.out]⟩
            case measure => simp only [intOf]; omega
          · have d1 : decide (y < 0) = false := decide_eq_false hneg
            by_cases hless : (q : Int) < y
            · have d2 : decide ((q : Int) < y) = true := decide_eq_true hless
              have HF : Hid (fr y q = q) := by unfold Hid fr; rw [if_pos (.inr hless)]
              go_wp2
              go_quiet ((go_at_call 25; first | exact quietR (cc _) | exact quietR2 (cc _)))
              go_wp2
              go_quiet ((go_at_call 25; first | exact quietR (cc _) | exact quietR2 (cc _)))
              go_wp2
              go_roundw
              case rel => exact ⟨j + 1, q, by omega, by go_num, rfl, by omega, by omega, by first | exact (hq2.drewN _).drewN _ | exact hq2.drewN _, by unfold Hid; rw [HN.out, hrel2.out, HF.out]⟩
              case measure => simp only [intOf]; omega
            · have d2 : decide ((q : Int) < y) = false := decide_eq_false hless
              have HF : Hid (fr y q = y) := by unfold Hid fr; rw [if_neg (by omega)]
              go_wp2
              go_quiet ((go_at_call 25; first | exact quietR (cc _) | exact quietR2 (cc _)))
              go_wp2
              go_roundw
              case rel => exact ⟨j + 1, y, by omega, by go_num, rfl, by omega, by omega, hq2.drewN _, by unfold Hid; rw [HN.out, hrel2.out, HF.out]⟩
              case measure => simp only [intOf]; omega
        · obtain rfl : j = k := by omega
          have HZ : Hid (outF fr (-1) l (j + 1) = y) := by
            have h2 := hrel2.out
            rw [List.take_of_length_le (List.length_take_le _ _)] at h2
            unfold Hid; rw [HS.out, hrel.out, h2]
          go_wp2
          go_roundw
          case rel => exact ⟨j + 1, y, by omega, by go_num, rfl, hy0, hy1, hq.trans hq2, HZ⟩
          case measure => simp only [intOf]; omega
    · obtain rfl : k = n := by omega
      go_wp2
      go_ret
      exact ⟨ret_i (by rw [← hr.out, hrel.out]), hq⟩

set_option maxHeartbeats 800000 in
theorem BookLeasts_walk (nb : Int) (A : Option Addr) (n c : Nat) (l : List Nat) (w : World) (_ : (Lit.int .i64 nb).wf = true) (h : Reads w w.heap.size A n (vn .u32 l)) (hw : ∀ x ∈ l, x < 4294967296) (_ : n * 4 ≤ reachBytes) (hc : n ≤ c) :
    Calls Try.prog 13 #[.int .i64 nb, .slice A n c] w (LawTrue w) := by
  have H := Lib.hid h.nat_len
  by_cases h0 : bookErr nb l = 0
  · have c2 := fun w' (hq : Reads w' w'.heap.size A n (vn .u32 l)) => ref_BookCheck nb A n c l 0 w' hq hw hc h0
    obtain ⟨m, rfl, hm, h64, hl⟩ := bookErr_ok h0
    have h64' : n ≤ 64 := by rw [← H.out]; exact h64
    have hrel := lrel_out hm l hl n (by rw [H.out]; omega)
    by_cases h2 : n < 2
    · have e := outF_few l n (by omega)
      rw [e] at hrel
      have hp : outF fp (m + 1) l n = m + 1 := by rcases hrel with ⟨_, h⟩ | ⟨h, _⟩ <;> omega
      have c1 := book_Least_ok m A n c l 0 5 w h hm hl hw hc h64' h0 (by unfold Hid; rw [hp, if_pos (by omega)])
      clear hrel h0 e hp h64
      go_enter Try.func13, Try.ntmps13
      go_wp2_with (first | (go_at_call 41; refine c1.mono ?_; rintro e w1 ⟨rfl, m1, rfl⟩) | (go_at_call 34; refine (c2 _ (h.drewN _)).mono ?_; rintro e w' ⟨rfl, rfl⟩))
      go_ret
      exact .drewN _ _
    · have e := outF_many l n (by omega) (by rw [H.out]; omega)
      have hp : outF fp (m + 1) l n = outF fr (-1) l n ∧ outF fr (-1) l n ≤ m := by rcases hrel with ⟨h, _⟩ | ⟨_, h1, h2⟩ <;> omega
      have c1 := book_Least_ok m A n c l (outF fr (-1) l n) 0 w h hm hl hw hc h64' h0 (by unfold Hid; rw [hp.1, if_neg (by omega)])
      have c3 := fun w' (hq : Reads w' w'.heap.size A n (vn .u32 l)) => ref_Least m A n c l (outF fr (-1) l n) w' hq hm hl hw h64' rfl
      clear hrel h0 e hp h64
      generalize outF fr (-1) l n = z at *
      go_enter Try.func13, Try.ntmps13
      go_wp2_with (first | (go_at_call 41; refine c1.mono ?_; rintro e w1 ⟨rfl, m1, rfl⟩) | (go_at_call 34; refine (c2 _ (h.drewN _)).mono ?_; rintro e w' ⟨rfl, rfl⟩) | (go_at_call 42; refine (c3 _ (h.drewN _)).mono ?_; rintro e w1 ⟨rfl, m2, rfl⟩))
      go_ret
      exact ⟨rfl, by first | exact below_drewN (Below.refl _ _) _ | exact below_drewN (below_drewN (Below.refl _ _) _) _⟩
  · have hz : (bookErr nb l != 0) = true := by simpa using h0
    have hz2 : (bookErr nb l == 0) = false := by simpa using h0
    have c1 := book_Least_err nb A n c l (bookErr nb l) w h hw hc rfl hz
    have c2 := ref_BookCheck nb A n c l (bookErr nb l) w h hw hc rfl
    clear h0
    generalize bookErr nb l = z at *
    go_enter Try.func13, Try.ntmps13
    go_wp2_with (first | (go_at_call 41; refine c1.mono ?_; rintro e w1 ⟨rfl, rfl⟩) | (go_at_call 34; refine c2.mono ?_; rintro e w' ⟨rfl, rfl⟩))
    go_ret
    exact .same _
end Go.Proofs.Ytbkgbmnnnlpefaa

import Derived.Test.YtbkgbmnnnlpefaaBook
import Derived.OwnWalk
set_option linter.unusedVariables false
namespace Go.Proofs.Ytbkgbmnnnlpefaa
open Go.RowKit

/-- returned v; nothing that was there has turned -/
def RetB (w : World) (v : Value) (e : Ending) (w' : World) : Prop := e = .returned v ∧ Below w.heap.size w w'
theorem ret_iii' {a b c a' b' c' : Int} {k1 k2 k3 : IntKind} (h : (a, b, c) = (a', b', c')) : Ending.returned (.tuple #[.int k1 a, .int k2 b, .int k3 c]) = .returned (.tuple #[.int k1 a', .int k2 b', .int k3 c']) := by
  simp only [Prod.mk.injEq] at h; rw [h.1, h.2.1, h.2.2]

def nearI (l : List Nat) (q : Nat → Nat) : Nat → Nat
  | 0 => 0
  | k + 1 => if q (l.getD k 0) < q (l.getD (nearI l q k) 0) then k else nearI l q k
theorem nearI_lt (l : List Nat) (q : Nat → Nat) (k : Nat) (h : 0 < k) : nearI l q k < k := by
  induction k with
  | zero => omega
  | succ k ih =>
    rw [nearI]; split
    · omega
    · rcases Nat.eq_zero_or_pos k with rfl | h0
      · simp [nearI]
      · have := ih h0; omega
theorem nearI_next {l : List Nat} {q : Nat → Nat} {k x y : Nat} (hx : l[k]? = some x) (hy : l[nearI l q k]? = some y) : nearI l q (k + 1) = if q x < q y then k else nearI l q k := by
  rw [nearI]; simp only [List.getD, hx, hy, Option.getD_some]

set_option maxHeartbeats 400000 in
theorem near_1 (x v : Nat) (q : Nat → Nat) (hqv : ∀ z, pop (z ^^^ v) = q z) (p : Addr) (w : World) (hx : x < 4294967296) (hv : v < 4294967296) (hc : w.cell? p = some (.int .u32 (v : Int))) :
    Calls Try.prog 57 #[.int .u32 (x : Int), .pointer (some p)] w (RetQ w (.int .i64 (q x))) := by
  have hxv : x ^^^ v < 4294967296 := Nat.xor_lt_two_pow (n := 32) hx hv
  have hmx := u32_xor_nat x v hx hv
  have cc := fun w => hqv x ▸ ones_count (x ^^^ v) w hxv
  go_enter Try.func57, Try.ntmps57
  go_wp2_with (go_at_call 44; refine (cc _).mono ?_; rintro e w' ⟨rfl, m0, rfl⟩)
  go_ret
  exact ⟨rfl, m0, rfl⟩

def nearErr (m n v : Nat) : Int := if 2 ^ m ≤ v then 4 else if n = 0 then 5 else 0

set_option maxHeartbeats 1600000 in
theorem book_Near (m : Nat) (A : Option Addr) (n c : Nat) (l : List Nat) (v : Nat) (q : Nat → Nat) (hqv : ∀ z, pop (z ^^^ v) = q z) (i d : Nat) (w : World) (h : Reads w w.heap.size A n (vn .u32 l)) (hm : m ≤ 12) (hw : ∀ x ∈ l, x < 4294967296) (hv : v < 4294967296) (hnc : n ≤ c) (h64 : n ≤ 64) (hk : Hid (bookErr m l = 0))
    (hvm : ¬ 2 ^ m ≤ v) (hn0 : 0 < n) (hi : Hid (nearI l q n = i)) (hd : Hid (q (l.getD i 0) = d)) :
    Calls Try.prog 43 #[.int .i64 (m : Int), .slice A n c, .int .u32 (v : Int)] w (RetB w (.tuple #[.int .i64 i, .int .i64 d, .int .i64 0])) := by
  have H := Lib.hid h.nat_len
  have hr0 : Reads (w.alloc (.cells #[.int .u32 (v : Int)] 38)) (w.heap.size + 1) A n (vn .u32 l) := (h.alloc (Nat.le_refl _) _).more (by omega)
  have c1 := book_Check m A n c l 0 (w.alloc (.cells #[.int .u32 (v : Int)] 38)) (by simpa using hr0) hw hnc hk
  have ht := shr_test (x := v) (m := m)
  rw [decide_eq_false hvm] at ht
  have e1 : ((n : Int) == 0) = false := by simp; omega
  clear hvm
  have hcp : (w.alloc (.cells #[.int .u32 (v : Int)] 38)).cell? ⟨w.heap.size, 0, none⟩ = some (.int .u32 (v : Int)) := cell_one_new _ _ _ 0 _ rfl
  have hbel : Below w.heap.size w (w.alloc (.cells #[.int .u32 (v : Int)] 38)) := (Below.refl _ _).alloc (Nat.le_refl _) _
  go_enter Try.func43, Try.ntmps43
  go_wp2_with (go_at_call 33; refine c1.mono ?_; rintro e w' ⟨rfl, rfl⟩)
  generalize hW : w.alloc (.cells #[.int .u32 (v : Int)] 38) = W at *
  clear hW c1
  generalize (⟨w.heap.size, 0, none⟩ : Addr) = p at *
  go_loopw [11, 30] (fun b i wr => ∃ k j : Nat, k ≤ n ∧ i = .int .i64 k ∧ b = .int .i64 j ∧ j < n ∧ Qt W wr ∧ Hid (nearI l q k = j)) (fun _ i _ => n - (intOf i).toNat)
  case atStart => exact ⟨0, 0, by omega, rfl, rfl, hn0, Qt.refl _, rfl⟩
  case round =>
    obtain ⟨k, j, hk2, rfl, rfl, hj, hq, hrel⟩ := hrel
    have hrd := hr0.qt hq
    have hcw := (hq.cell p).trans hcp
    obtain ⟨ad2, y, e2, hb2, hy, hcy⟩ := hrd.nat_at hj
    subst e2
    have hy32 := hw y (mem_at hy)
    have i1 : (0 : Int) ≤ (j : Int) := by omega
    have i2 : (j : Int) < (n : Int) := by omega
    by_cases hlt : k < n
    · obtain ⟨ad, x, e, hb, hx, hcx⟩ := hrd.nat_at hlt
      injection e with e
      subst e
      have hx32 := hw x (mem_at hx)
      have HN := Lib.hid (nearI_next (q := q) hx (by rw [hrel.out]; exact hy))
      rw [hrel.out] at HN
      clear hx hy hrd
      by_cases hless : q x < q y
      · have d1 : decide (q x < q y) = true := decide_eq_true (by omega)
        have HF : Hid (nearI l q (k + 1) = k) := by unfold Hid; rw [HN.out, if_pos hless]
        clear HN hless
        go_wp2
        go_quiet ((go_at_call 57; exact quietQ (near_1 _ v q hqv p _ (by first | exact hx32 | exact hy32) hv hcw)))
        go_wp2
        go_roundw
        case rel => exact ⟨k + 1, k, by omega, by go_num, rfl, hlt, hq.drewN _, HF⟩
        case measure => simp only [intOf]; omega
      · have d1 : decide (q x < q y) = false := decide_eq_false (by omega)
        have HF : Hid (nearI l q (k + 1) = j) := by unfold Hid; rw [HN.out, if_neg hless]
        clear HN hless
        go_wp2
        go_quiet ((go_at_call 57; exact quietQ (near_1 _ v q hqv p _ (by first | exact hx32 | exact hy32) hv hcw)))
        go_wp2
        go_roundw
        case rel => exact ⟨k + 1, j, by omega, by go_num, rfl, hj, hq.drewN _, HF⟩
        case measure => simp only [intOf]; omega
    · obtain rfl : k = n := by omega
      have cy := near_1 y v q hqv p wr hy32 hv hcw
      have HD : Hid (q y = d) := by
        unfold Hid; rw [← hd.out, ← hi.out, hrel.out]; simp only [List.getD, hy, Option.getD_some]
      rw [HD.out] at cy
      have HI : Hid (j = i) := by unfold Hid; rw [← hrel.out, hi.out]
      clear hy hrd
      go_wp2_with (go_at_call 57; refine cy.mono ?_; rintro e w' ⟨rfl, m0, rfl⟩)
      go_ret3
      exact ⟨ret_iii' (by rw [HI.out]), below_drewN (hbel.trans (hq.below _)) _⟩

set_option maxHeartbeats 800000 in
theorem book_Near_err (nb : Int) (A : Option Addr) (n c : Nat) (l : List Nat) (v : Nat) (z : Int) (w : World) (h : Reads w w.heap.size A n (vn .u32 l)) (hw : ∀ x ∈ l, x < 4294967296) (hv : v < 4294967296) (hnc : n ≤ c) (hk : Hid (bookErr nb l = z)) (hz : (z != 0) = true) :
    Calls Try.prog 43 #[.int .i64 nb, .slice A n c, .int .u32 (v : Int)] w (RetB w (.tuple #[.int .i64 0, .int .i64 0, .int .i64 z])) := by
  have hr0 : Reads (w.alloc (.cells #[.int .u32 (v : Int)] 38)) (w.heap.size + 1) A n (vn .u32 l) := (h.alloc (Nat.le_refl _) _).more (by omega)
  have c1 := book_Check nb A n c l z (w.alloc (.cells #[.int .u32 (v : Int)] 38)) (by simpa using hr0) hw hnc hk
  have hbel : Below w.heap.size w (w.alloc (.cells #[.int .u32 (v : Int)] 38)) := (Below.refl _ _).alloc (Nat.le_refl _) _
  go_enter Try.func43, Try.ntmps43
  go_wp2_with (go_at_call 33; refine c1.mono ?_; rintro e w' ⟨rfl, rfl⟩)
  go_ret3
  exact ⟨rfl, hbel⟩

set_option maxHeartbeats 800000 in
theorem book_Near_no (m : Nat) (A : Option Addr) (n c : Nat) (l : List Nat) (v : Nat) (z : Int) (w : World) (h : Reads w w.heap.size A n (vn .u32 l)) (hm : m ≤ 12) (hw : ∀ x ∈ l, x < 4294967296) (hv : v < 4294967296) (hnc : n ≤ c) (hk : Hid (bookErr m l = 0))
    (hz : nearErr m n v = z) (h0 : z ≠ 0) :
    Calls Try.prog 43 #[.int .i64 (m : Int), .slice A n c, .int .u32 (v : Int)] w (RetB w (.tuple #[.int .i64 0, .int .i64 0, .int .i64 z])) := by
  have hr0 : Reads (w.alloc (.cells #[.int .u32 (v : Int)] 38)) (w.heap.size + 1) A n (vn .u32 l) := (h.alloc (Nat.le_refl _) _).more (by omega)
  have c1 := book_Check m A n c l 0 (w.alloc (.cells #[.int .u32 (v : Int)] 38)) (by simpa using hr0) hw hnc hk
  have ht := shr_test (x := v) (m := m)
  have hbel : Below w.heap.size w (w.alloc (.cells #[.int .u32 (v : Int)] 38)) := (Below.refl _ _).alloc (Nat.le_refl _) _
  have hcp : (w.alloc (.cells #[.int .u32 (v : Int)] 38)).cell? ⟨w.heap.size, 0, none⟩ = some (.int .u32 (v : Int)) := cell_one_new _ _ _ 0 _ rfl
  by_cases hvm : 2 ^ m ≤ v
  · have HZ : Hid (z = 4) := by unfold Hid; rw [← hz, nearErr, if_pos hvm]
    rw [decide_eq_true hvm] at ht
    clear hvm hz h0
    go_enter Try.func43, Try.ntmps43
    go_wp2_with (go_at_call 33; refine c1.mono ?_; rintro e w' ⟨rfl, rfl⟩)
    go_ret3
    exact ⟨by rw [HZ.out]; rfl, hbel⟩
  · have hn : n = 0 := by
      rw [nearErr, if_neg hvm] at hz
      by_cases h : n = 0
      · exact h
      · rw [if_neg h] at hz; omega
    have HZ : Hid (z = 5) := by unfold Hid; rw [← hz, nearErr, if_neg hvm, if_pos hn]
    rw [decide_eq_false hvm] at ht
    have e1 : ((n : Int) == 0) = true := by simp; omega
    clear hvm hz h0 hn
    go_enter Try.func43, Try.ntmps43
    go_wp2_with (go_at_call 33; refine c1.mono ?_; rintro e w' ⟨rfl, rfl⟩)
    go_ret3
    exact ⟨by rw [HZ.out]; rfl, hbel⟩

set_option maxHeartbeats 1600000 in
theorem BookNears_walk (nb : Int) (A : Option Addr) (n c : Nat) (l : List Nat) (v : Nat) (w : World) (_ : (Lit.int .i64 nb).wf = true) (h : Reads w w.heap.size A n (vn .u32 l)) (hw : ∀ x ∈ l, x < 4294967296) (_ : n * 4 ≤ reachBytes) (hc : n ≤ c) (hv : v < 4294967296) :
    Calls Try.prog 14 #[.int .i64 nb, .slice A n c, .int .u32 (v : Int)] w (LawTrue w) := by
  have H := Lib.hid h.nat_len
  have cb := fun (w : World) (b : Int) (hb : Hid (bitsErr nb [v] = b)) => ref_BitsCheck nb (some ⟨w.heap.size, 0, none⟩) 1 1 [v] b (w.alloc (.cells #[.int .u32 (v:Int)] 38)) (by simpa using reads_new w #[.int .u32 (v:Int)] 38 1 rfl) hb (by unfold maxLen; omega) (by simpa using hv)
  by_cases h0 : bookErr nb l = 0
  · have ck := fun (w' : World) (hb : Below w.heap.size w w') => ref_BookCheck nb A n c l 0 w' ((h.below hb).more hb.size) hw hc h0
    obtain ⟨m, rfl, hm, h64, hl⟩ := bookErr_ok h0
    have h64' : n ≤ 64 := by rw [← H.out]; exact h64
    by_cases hvm : 2 ^ m ≤ v
    · have c1 := book_Near_no m A n c l v 4 w h hm hw hv hc h0 (by simp [nearErr, hvm]) (by omega)
      have cb := fun w => cb w 4 (bitsErr_bad (k := 0) (x := v) hm rfl (by omega))
      clear hvm h0
      go_enter Try.func14, Try.ntmps14
      go_wp2_with (first | (go_at_call 43; refine c1.mono ?_; rintro e w1 ⟨rfl, hb1⟩) | (go_at_call 34; refine (ck _ hb1).mono ?_; rintro e w' ⟨rfl, rfl⟩) | (go_at_call 24; refine (cb _).mono ?_; rintro e w' ⟨rfl, rfl⟩))
      go_ret
      exact ⟨rfl, hb1.alloc hb1.size _⟩
    · have cb := fun w => cb w 0 (bitsErr_ok hm (by simp [fits]; omega))
      by_cases hn : n = 0
      · have c1 := book_Near_no m A n c l v 5 w h hm hw hv hc h0 (by simp [nearErr, hvm, hn]) (by omega)
        have e1 : ((n : Int) == 0) = true := by simp; omega
        clear hvm h0 hn
        go_enter Try.func14, Try.ntmps14
        go_wp2_with (first | (go_at_call 43; refine c1.mono ?_; rintro e w1 ⟨rfl, hb1⟩) | (go_at_call 34; refine (ck _ hb1).mono ?_; rintro e w' ⟨rfl, rfl⟩) | (go_at_call 24; refine (cb _).mono ?_; rintro e w' ⟨rfl, rfl⟩))
        go_ret
        exact ⟨rfl, hb1.alloc hb1.size _⟩
      · obtain ⟨q, hqv⟩ : ∃ q : Nat → Nat, ∀ z, pop (z ^^^ v) = q z := ⟨fun z => pop (z ^^^ v), fun _ => rfl⟩
        have hqI : ∀ z, Hid ((pop (z ^^^ v) : Int) = (q z : Int)) := fun z => by unfold Hid; rw [hqv]
        obtain ⟨i, hi⟩ : ∃ i, nearI l q n = i := ⟨_, rfl⟩
        obtain ⟨d, hd⟩ : ∃ d, q (l.getD i 0) = d := ⟨_, rfl⟩
        have c1 := book_Near m A n c l v q hqv i d w h hm hw hv hc h64' h0 hvm (by omega) hi hd
        have HI := Lib.hid hi
        have HD := Lib.hid hd
        have e1 : ((n : Int) == 0) = false := by simp; omega
        have hn0 : 0 < n := by omega
        clear hvm h0 hn hi hd
        go_enter Try.func14, Try.ntmps14
        go_wp2_with (first | (go_at_call 43; refine c1.mono ?_; rintro e w1 ⟨rfl, hb1⟩) | (go_at_call 34; refine (ck _ hb1).mono ?_; rintro e w' ⟨rfl, rfl⟩) | (go_at_call 24; refine (cb _).mono ?_; rintro e w' ⟨rfl, rfl⟩))
        have hb2 : Below w.heap.size w (w1.alloc (.cells #[.int .u32 (v : Int)] 38)) := hb1.alloc hb1.size _
        have hr1 := h.below hb2
        generalize w1.alloc (.cells #[.int .u32 (v : Int)] 38) = W at *
        clear hb1 cb ck
        go_loopw [11, 53] (fun b i wr => ∃ k j : Nat, k ≤ n ∧ i = .int .i64 k ∧ b = .int .i64 j ∧ j < n ∧ Qt W wr ∧ Hid (nearI l q k = j)) (fun _ i _ => n - (intOf i).toNat)
        case atStart => exact ⟨0, 0, by omega, rfl, rfl, hn0, Qt.refl _, rfl⟩
        case round =>
          obtain ⟨k, j, hk2, rfl, rfl, hj, hq, hrel⟩ := hrel
          have hrd := hr1.qt hq
          obtain ⟨ad2, y, e2, hb2', hy, hcy⟩ := hrd.nat_at hj
          subst e2
          have hy32 := hw y (mem_at hy)
          have i1 : (0 : Int) ≤ (j : Int) := by omega
          have i2 : (j : Int) < (n : Int) := by omega
          by_cases hlt : k < n
          · obtain ⟨ad, x, e, hb, hx, hcx⟩ := hrd.nat_at hlt
            injection e with e
            subst e
            have hx32 := hw x (mem_at hx)
            have HN := Lib.hid (nearI_next (q := q) hx (by rw [hrel.out]; exact hy))
            rw [hrel.out] at HN
            clear hx hy hrd
            by_cases hless : q x < q y
            · have d1 : decide (q x < q y) = true := decide_eq_true (by omega)
              have HF : Hid (nearI l q (k + 1) = k) := by unfold Hid; rw [HN.out, if_pos hless]
              clear HN hless
              go_wp2
              go_quiet ((go_at_call 25; exact quietR (ref_Apart _ v _ _ (by first | exact hx32 | exact hy32) hv (hqI _))))
              go_wp2
              go_roundw
              case rel => exact ⟨k + 1, k, by omega, by go_num, rfl, hlt, hq.drewN _, HF⟩
              case measure => simp only [intOf]; omega
            · have d1 : decide (q x < q y) = false := decide_eq_false (by omega)
              have HF : Hid (nearI l q (k + 1) = j) := by unfold Hid; rw [HN.out, if_neg hless]
              clear HN hless
              go_wp2
              go_quiet ((go_at_call 25; exact quietR (ref_Apart _ v _ _ (by first | exact hx32 | exact hy32) hv (hqI _))))
              go_wp2
              go_roundw
              case rel => exact ⟨k + 1, j, by omega, by go_num, rfl, hj, hq.drewN _, HF⟩
              case measure => simp only [intOf]; omega
          · obtain rfl : k = n := by omega
            have HJ : i = j := by rw [← HI.out, hrel.out]
            subst HJ
            have cy := ref_Apart y v d wr hy32 hv (by unfold Hid; rw [← HD.out, hqv]; simp only [List.getD, hy, Option.getD_some])
            clear hy hrd
            go_wp2_with (go_at_call 25; refine cy.mono ?_; rintro e w' ⟨rfl, rfl⟩)
            go_ret
            exact ⟨rfl, hb2.trans (hq.below _)⟩
  · have hz : (bookErr nb l != 0) = true := by simpa using h0
    have hz2 : (bookErr nb l == 0) = false := by simpa using h0
    have ck := fun (w' : World) (hb : Below w.heap.size w w') => ref_BookCheck nb A n c l (bookErr nb l) w' ((h.below hb).more hb.size) hw hc rfl
    have c1 := book_Near_err nb A n c l v (bookErr nb l) w h hw hv hc rfl hz
    clear h0 cb
    generalize bookErr nb l = z at *
    go_enter Try.func14, Try.ntmps14
    go_wp2_with (first | (go_at_call 43; refine c1.mono ?_; rintro e w1 ⟨rfl, hb1⟩) | (go_at_call 34; refine (ck _ hb1).mono ?_; rintro e w' ⟨rfl, rfl⟩))
    go_ret
    exact ⟨rfl, hb1⟩
end Go.Proofs.Ytbkgbmnnnlpefaa

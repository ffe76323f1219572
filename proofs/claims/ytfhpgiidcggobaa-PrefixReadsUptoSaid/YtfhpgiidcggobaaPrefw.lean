import Derived.Test.YtfhpgiidcggobaaPrefix
import Derived.Test.YtfhpgiidcggobaaOwn
import Derived.Test.YtfhpgiidcggobaaBools
set_option linter.unusedVariables false
namespace Go.Proofs.Ytfhpgiidcggobaa
open Go.RowKit

theorem el_bools : Elem Try.prog 24 4 (.bool false) 1 := Elem.mk' Try.underlying24 (by kernel_rfl) rfl
theorem one_vbs (l : List Bool) : ∀ u ∈ vb l, u.oneCell' = true := by
  intro u hu
  obtain ⟨b, _, rfl⟩ := List.mem_map.1 hu
  rfl
def wordAt (ls : List (List Bool)) (s : Int) : List Bool := ls.getD s.toNat []
def wrL (ls : List (List Bool)) (L : List Int) : List Bool := (L.map (wordAt ls)).flatten
def badS (n : Nat) (s : Int) : Bool := decide (s < 0) || decide ((n : Int) ≤ s)
theorem wrL_next {ls : List (List Bool)} {L : List Int} {k : Nat} {s : Int} (h : L[k]? = some s) : wrL ls (L.take (k + 1)) = wrL ls (L.take k) ++ wordAt ls s := by
  unfold wrL; rw [take_next h, List.map_append, List.flatten_append]; simp
theorem wrL_len {ls : List (List Bool)} (h : ∀ l ∈ ls, l.length ≤ 8) (L : List Int) : (wrL ls L).length ≤ 8 * L.length := by
  induction L with
  | nil => simp [wrL]
  | cons s L ih =>
    have : (wordAt ls s).length ≤ 8 := by
      unfold wordAt
      rw [List.getD]
      rcases Nat.lt_or_ge s.toNat ls.length with hk | hk
      · rw [List.getElem?_eq_getElem hk]; exact h _ (List.getElem_mem hk)
      · rw [List.getElem?_eq_none hk]; simp
    unfold wrL at *
    rw [List.map_cons, List.flatten_cons, List.length_append, List.length_cons]; omega
theorem codeErr_ok {ls : List (List Bool)} (h : codeErr ls = 0) : ls.length ≤ 8 ∧ ∀ l ∈ ls, l.length ≤ 8 := by
  unfold codeErr at h
  split at h
  · omega
  · rename_i h1
    refine ⟨by omega, fun l hl => ?_⟩
    rcases Nat.lt_or_ge 8 l.length with h2 | h2
    · exact absurd (.inr (List.any_eq_true.2 ⟨l, hl, by simp [longW, h2]⟩)) h1
    · exact h2
theorem Reads2.more {w : World} {B B' : Nat} {A : Option Addr} {n : Nat} {ls : List (List Bool)} (h : Reads2 w B A n ls) (hB : B ≤ B') : Reads2 w B' A n ls := by
  obtain ⟨vs, hv, hl, he⟩ := h
  exact ⟨vs, hv.more hB, hl, fun k l hk => by obtain ⟨A', n', c', e, h2, h3⟩ := he k l hk; exact ⟨A', n', c', e, h2.more hB, h3⟩⟩
/-- returned a slice that the call made, and a code -/
def RetSEb (w : World) (E : TypeId) (xs : List Value) (z : Int) (e : Ending) (w' : World) : Prop :=
  ∃ A n c, e = .returned (.tuple #[.slice A n c, .int .i64 z]) ∧ Own w' w.heap.size E (.slice A n c) xs ∧ Below w.heap.size w w'
set_option maxHeartbeats 400000 in
theorem prefix_Write_err (A A' : Option Addr) (n c m c' : Nat) (ls : List (List Bool)) (z : Int) (w : World) (h : Reads2 w w.heap.size A n ls) (hn : n ≤ maxLen) (hz : Hid (codeErr ls = z)) (h0 : (z != 0) = true) :
    Calls Try.prog 15 #[.slice A n c, .slice A' m c'] w (RetQ w (.tuple #[.slice none 0 0, .int .i64 z])) := by
  have c1 := prefix_Check A n c ls z w h hn hz
  go_enter Try.func15, Try.ntmps15
  go_wp2_with (go_at_call 42; refine c1.mono ?_; rintro e w' ⟨rfl, m1, rfl⟩)
  go_ret2
  exact ⟨rfl, m1, rfl⟩
set_option maxHeartbeats 400000 in
theorem prefix_Write_long (A A' : Option Addr) (n c m c' : Nat) (ls : List (List Bool)) (w : World) (h : Reads2 w w.heap.size A n ls) (hn : n ≤ maxLen) (hz : Hid (codeErr ls = 0)) (hm : 64 < m) :
    Calls Try.prog 15 #[.slice A n c, .slice A' m c'] w (RetQ w (.tuple #[.slice none 0 0, .int .i64 1])) := by
  have c1 := prefix_Check A n c ls 0 w h hn hz
  go_enter Try.func15, Try.ntmps15
  go_wp2_with (go_at_call 42; refine c1.mono ?_; rintro e w' ⟨rfl, m1, rfl⟩)
  go_ret2
  exact ⟨rfl, m1, rfl⟩
set_option maxHeartbeats 800000 in
theorem prefix_Write (A A' : Option Addr) (n c m c' : Nat) (ls : List (List Bool)) (L : List Int) (xs : List Bool) (z : Int) (w : World) (h : Reads2 w w.heap.size A n ls) (h' : Reads w w.heap.size A' m (vi .i64 L)) (hz : Hid (codeErr ls = 0)) (hm : m ≤ 64)
    (hr : Hid ((if L.any (badS n) then (([] : List Bool), (2 : Int)) else (wrL ls L, 0)) = (xs, z))) :
    Calls Try.prog 15 #[.slice A n c, .slice A' m c'] w (RetSEb w 4 (vb xs) z) := by
  have H := Lib.hid h.length
  have H' := Lib.hid h'.int_len
  obtain ⟨h8, h88⟩ := codeErr_ok hz.out
  have hn8 : n ≤ 8 := by rw [← H.out]; exact h8
  have HW := Lib.hid (wrL_len h88)
  have HW8 := Lib.hid h88
  have c1 := prefix_Check A n c ls 0 w h (by unfold maxLen; omega) hz
  clear h8 h88
  go_enter Try.func15, Try.ntmps15
  go_wp2_with (go_at_call 42; refine c1.mono ?_; clear c1; rintro e w' ⟨rfl, m1, rfl⟩)
  go_loopw [7, 20] (fun v i wr => ∃ k : Nat, k ≤ m ∧ i = .int .i64 k ∧ Hid ((L.take k).any (badS n) = false) ∧ Own wr w.heap.size 4 v (vb (wrL ls (L.take k))) ∧ Below w.heap.size w wr) (fun _ i _ => m - (intOf i).toNat)
  case atStart => exact ⟨0, by omega, rfl, by simp [Hid], Own.nil _ _ _, below_drewN (Below.refl _ _) _⟩
  case round =>
    obtain ⟨k, hk, rfl, hall, hown, hb⟩ := hrel
    have hwl := HW.out (L.take k)
    rw [List.length_take] at hwl
    have hl : (vb (wrL ls (L.take k))).length ≤ 512 := by rw [List.length_map]; omega
    by_cases hlt : k < m
    · obtain ⟨ad, s, e, hbb, hx, hcx⟩ := (h'.below hb).int_at hlt
      subst e
      by_cases hs : badS n s = true
      · have HR : Hid (([], 2) = (xs, z)) := by
          have := hr.out
          rwa [if_pos (List.any_eq_true.2 ⟨s, mem_at hx, hs⟩)] at this
        have hxz := HR.out
        injection hxz with e1 e2
        subst e1
        subst e2
        simp only [badS, Bool.or_eq_true, decide_eq_true_eq] at hs
        clear hx hwl HR hr
        by_cases hs0 : s < 0
        · clear hs
          go_wp2
          go_ret2
          exact ⟨none, 0, 0, rfl, Own.nil _ _ _, hb⟩
        · have hs1 : (n : Int) ≤ s := by omega
          clear hs
          go_wp2
          go_ret2
          exact ⟨none, 0, 0, rfl, Own.nil _ _ _, hb⟩
      · have hA : Hid ((L.take (k + 1)).any (badS n) = false) := by
          unfold Hid; rw [take_next hx, List.any_append, hall.out]; simp; simpa using hs
        simp only [badS, Bool.or_eq_true, decide_eq_true_eq, not_or] at hs
        obtain ⟨hs0, hs1⟩ := hs
        obtain ⟨t, rfl⟩ := Int.eq_ofNat_of_zero_le (show 0 ≤ s by omega)
        have HN := Lib.hid (wrL_next (ls := ls) hx)
        obtain ⟨ad2, q, A2, n2, c2, e, hq, hcq, hrq, _, hql⟩ := (h.below hb).row (k := t) (by omega)
        subst e
        have hq8 := HW8.out q (mem_at hq)
        have HQ : Hid (wordAt ls (t : Int) = q) := by unfold Hid wordAt; rw [Int.toNat_natCast, List.getD, hq]; rfl
        rw [HQ.out] at HN
        have i1 : (0 : Int) ≤ (t : Int) := Int.natCast_nonneg t
        have i2 : (t : Int) < (n : Int) := by omega
        have d3 : decide (n ≤ t) = false := decide_eq_false (by omega)
        have hn2 : n2 ≤ 8 := by omega
        have hB := hb.size
        have HRQ := Lib.hid hrq
        clear hx hq hwl hrq hql hs1
        go_wp2_with (at_builtin; refine appN el_bools rfl _ _ rfl rfl hown rfl HRQ.out (one_vbs q) (by unfold maxLen; omega) (by omega) hB ?_; intro v2 w2 ho2 hb2 _ _)
        go_roundw
        case rel => exact ⟨k + 1, by omega, by go_num, hA, by rw [HN.out]; simpa [vb] using ho2, hb.trans hb2⟩
        case measure => simp only [intOf]; omega
    · obtain rfl : k = m := by omega
      rw [List.take_of_length_le (Nat.le_of_eq H'.out)] at hown hall
      have hxz := hr.out
      rw [if_neg (by rw [hall.out]; simp)] at hxz
      injection hxz with e1 e2
      rw [e1] at hown
      subst e2
      clear e1 hr hl hwl
      obtain ⟨A2, c2, e⟩ := hown.form
      generalize hn2 : (vb xs).length = n2 at e
      subst e
      clear hn2
      go_wp2
      go_ret2
      exact ⟨A2, n2, c2, rfl, hown, hb⟩
set_option maxHeartbeats 800000 in
theorem ref_Written (A A' : Option Addr) (n c m c' : Nat) (ls : List (List Bool)) (L : List Int) (w : World) (h : Reads2 w w.heap.size A n ls) (h' : Reads w w.heap.size A' m (vi .i64 L)) (hz : Hid (codeErr ls = 0)) (hm : m ≤ 1000000)
    (hok : Hid (∀ s ∈ L, 0 ≤ s ∧ s < (n : Int))) :
    Calls Try.prog 18 #[.slice A n c, .slice A' m c'] w (RetS w 4 (vb (wrL ls L))) := by
  have H := Lib.hid h.length
  have H' := Lib.hid h'.int_len
  obtain ⟨h8, h88⟩ := codeErr_ok hz.out
  have hn8 : n ≤ 8 := by rw [← H.out]; exact h8
  have HW := Lib.hid (wrL_len h88)
  have HW8 := Lib.hid h88
  clear h8 h88
  go_enter Try.func18, Try.ntmps18
  go_wp2
  go_loopw [5, 10] (fun v i wr => ∃ k : Nat, k ≤ m ∧ i = .int .i64 k ∧ Own wr w.heap.size 4 v (vb (wrL ls (L.take k))) ∧ Below w.heap.size w wr) (fun _ i _ => m - (intOf i).toNat)
  case atStart => exact ⟨0, by omega, rfl, Own.nil _ _ _, Below.refl _ _⟩
  case round =>
    obtain ⟨k, hk, rfl, hown, hb⟩ := hrel
    have hwl := HW.out (L.take k)
    rw [List.length_take] at hwl
    have hl : (vb (wrL ls (L.take k))).length ≤ 8000000 := by rw [List.length_map]; omega
    by_cases hlt : k < m
    · obtain ⟨ad, s, e, hbb, hx, hcx⟩ := (h'.below hb).int_at hlt
      subst e
      obtain ⟨hs0, hs1⟩ := hok.out s (mem_at hx)
      obtain ⟨t, rfl⟩ := Int.eq_ofNat_of_zero_le hs0
      have HN := Lib.hid (wrL_next (ls := ls) hx)
      obtain ⟨ad2, q, A2, n2, c2, e, hq, hcq, hrq, _, hql⟩ := (h.below hb).row (k := t) (by omega)
      subst e
      have hq8 := HW8.out q (mem_at hq)
      have HQ : Hid (wordAt ls (t : Int) = q) := by unfold Hid wordAt; rw [Int.toNat_natCast, List.getD, hq]; rfl
      rw [HQ.out] at HN
      have hn2 : n2 ≤ 8 := by omega
      have hB := hb.size
      have HRQ := Lib.hid hrq
      clear hx hq hwl hrq hql
      go_wp2_with (at_builtin; refine appN el_bools rfl _ _ rfl rfl hown rfl HRQ.out (one_vbs q) (by unfold maxLen; omega) (by omega) hB ?_; intro v2 w2 ho2 hb2 _ _)
      go_roundw
      case rel => exact ⟨k + 1, by omega, by go_num, by rw [HN.out]; simpa [vb] using ho2, hb.trans hb2⟩
      case measure => simp only [intOf]; omega
    · obtain rfl : k = m := by omega
      rw [List.take_of_length_le (Nat.le_of_eq H'.out)] at hown
      clear hl hwl
      obtain ⟨A2, c2, e⟩ := hown.form
      generalize hn2 : (vb (wrL ls L)).length = n2 at e
      subst e
      clear hn2
      go_wp2
      go_ret
      exact ⟨A2, n2, c2, rfl, hown, hb⟩

set_option maxHeartbeats 800000 in
theorem law_PrefWr_bad (A A' : Option Addr) (n c m c' : Nat) (ls : List (List Bool)) (L : List Int) (u z : Int) (w : World) (h : Reads2 w w.heap.size A n ls) (h' : Reads w w.heap.size A' m (vi .i64 L)) (hn : n ≤ maxLen) (hm : m ≤ 140737488355328) (hu : Hid (codeErr ls = u)) (hz : z ≠ 0) (hcase : u = z ∨ u = 0 ∧ z = 1 ∧ 64 < m)
    (c1 : Calls Try.prog 15 #[.slice A n c, .slice A' m c'] w (RetQ w (.tuple #[.slice none 0 0, .int .i64 z]))) :
    Calls Try.prog 3 #[.slice A n c, .slice A' m c'] w (LawTrue w) := by
  have c2 := fun m => ref_CodeCheck A n c ls u (w.drewN m) (h.drewN m) hn hu
  have z1 : (z == 0) = false := by simpa using hz
  have z2 : (z != 0) = true := by simpa using hz
  unfold maxLen at hn
  rcases hcase with h1 | ⟨h1, h2, h3⟩
  · subst h1
    clear hz
    go_enter Try.func3, Try.ntmps3
    go_wp2_with (first | (go_at_call 15; refine c1.mono ?_; clear c1; rintro e w1 ⟨rfl, m1, rfl⟩) | (go_at_call 16; refine (c2 _).mono ?_; clear c2; rintro e w' ⟨rfl, rfl⟩))
    go_loop [7, 27] (fun xv i => xv = .int .i64 u ∧ ∃ k : Nat, k ≤ m ∧ i = .int .i64 k) (fun _ i => m - (intOf i).toNat)
    case atStart => exact ⟨rfl, 0, by omega, rfl⟩
    case round =>
      obtain ⟨rfl, k, hk, rfl⟩ := hrel
      by_cases hlt : k < m
      · obtain ⟨ad, s, e, hbb, hx, hcx⟩ := (h'.drewN m1).int_at hlt
        subst e
        clear hx
        go_wp2
        go_round
        case rel => exact ⟨rfl, k + 1, by omega, by go_num⟩
        case measure => simp [intOf]; omega
      · obtain rfl : k = m := by omega
        go_wp2
        go_ret
        exact .drewN _ _
  · subst h1
    subst h2
    clear hz z1 z2
    go_enter Try.func3, Try.ntmps3
    go_wp2_with (first | (go_at_call 15; refine c1.mono ?_; clear c1; rintro e w1 ⟨rfl, m1, rfl⟩) | (go_at_call 16; refine (c2 _).mono ?_; clear c2; rintro e w' ⟨rfl, rfl⟩))
    go_loop [7, 27] (fun xv i => xv = .int .i64 1 ∧ ∃ k : Nat, k ≤ m ∧ i = .int .i64 k) (fun _ i => m - (intOf i).toNat)
    case atStart => exact ⟨rfl, 0, by omega, rfl⟩
    case round =>
      obtain ⟨rfl, k, hk, rfl⟩ := hrel
      by_cases hlt : k < m
      · obtain ⟨ad, s, e, hbb, hx, hcx⟩ := (h'.drewN m1).int_at hlt
        subst e
        clear hx
        go_wp2
        go_round
        case rel => exact ⟨rfl, k + 1, by omega, by go_num⟩
        case measure => simp [intOf]; omega
      · obtain rfl : k = m := by omega
        go_wp2
        go_ret
        exact .drewN _ _
set_option maxHeartbeats 1000000 in
theorem law_PrefWr_main (A A' : Option Addr) (n c m c' : Nat) (ls : List (List Bool)) (L : List Int) (w : World) (h : Reads2 w w.heap.size A n ls) (h' : Reads w w.heap.size A' m (vi .i64 L)) (hz : Hid (codeErr ls = 0)) (hm : m ≤ 64) :
    Calls Try.prog 3 #[.slice A n c, .slice A' m c'] w (LawTrue w) := by
  have H := Lib.hid h.length
  have H' := Lib.hid h'.int_len
  have hn8 : n ≤ 8 := by rw [← H.out]; exact (codeErr_ok hz.out).1
  obtain ⟨xs, z, hr⟩ : ∃ xs z, Hid ((if L.any (badS n) then (([] : List Bool), (2 : Int)) else (wrL ls L, 0)) = (xs, z)) := ⟨_, _, rfl⟩
  have c1 := prefix_Write A A' n c m c' ls L xs z w h h' hz hm hr
  have c2 := fun (w1 : World) (hb1 : Below w.heap.size w w1) => ref_CodeCheck A n c ls 0 w1 ((h.below hb1).more hb1.size) (by unfold maxLen; omega) hz
  have HWL := Lib.hid (wrL_len (codeErr_ok hz.out).2 L)
  go_enter Try.func3, Try.ntmps3
  go_wp2_with (first | (go_at_call 15; refine c1.mono ?_; clear c1; rintro e w1 ⟨A1, n1, k1, rfl, ho1, hb1⟩) | (go_at_call 16; refine (c2 _ hb1).mono ?_; clear c2; rintro e w' ⟨rfl, rfl⟩))
  go_loop [7, 27] (fun xv i => ∃ k : Nat, k ≤ m ∧ i = .int .i64 k ∧ xv = .int .i64 (if (L.take k).any (badS n) then 2 else 0)) (fun _ i => m - (intOf i).toNat)
  case atStart => exact ⟨0, by omega, rfl, by simp⟩
  case round =>
    obtain ⟨k, hk, rfl, rfl⟩ := hrel
    by_cases hlt : k < m
    · obtain ⟨ad, s, e, hbb, hx, hcx⟩ := (h'.below hb1).int_at hlt
      subst e
      have HN : Hid ((L.take (k + 1)).any (badS n) = ((L.take k).any (badS n) || badS n s)) := by unfold Hid; rw [take_next hx, List.any_append]; simp
      clear hx
      cases hq : (L.take k).any (badS n)
      · rw [hq, Bool.false_or] at HN
        clear hq
        by_cases hs0 : s < 0
        · have HB : Hid (badS n s = true) := by simp [Hid, badS, hs0]
          rw [HB.out] at HN
          go_wp2
          go_round
          case rel => exact ⟨k + 1, by omega, by go_num, by rw [HN.out]; try rfl⟩
          case measure => simp [intOf]; omega
        · by_cases hs1 : (n : Int) ≤ s
          · have HB : Hid (badS n s = true) := by simp [Hid, badS, hs1]
            rw [HB.out] at HN
            go_wp2
            go_round
            case rel => exact ⟨k + 1, by omega, by go_num, by rw [HN.out]; try rfl⟩
            case measure => simp [intOf]; omega
          · have HB : Hid (badS n s = false) := by simp [Hid, badS]; try omega
            rw [HB.out] at HN
            go_wp2
            go_round
            case rel => exact ⟨k + 1, by omega, by go_num, by rw [HN.out]; try rfl⟩
            case measure => simp [intOf]; omega
      · rw [hq, Bool.true_or] at HN
        clear hq
        go_wp2
        go_round
        case rel => exact ⟨k + 1, by omega, by go_num, by rw [HN.out]; try rfl⟩
        case measure => simp [intOf]; omega
    · obtain rfl : k = m := by omega
      rw [List.take_of_length_le (Nat.le_of_eq H'.out)]
      cases hq : L.any (badS n)
      · have hxz := hr.out
        rw [hq, if_neg (by simp)] at hxz
        injection hxz with e1 e2
        rw [← e1] at ho1
        subst e2
        have hok : Hid (∀ s ∈ L, 0 ≤ s ∧ s < (n : Int)) := fun s hs => by
          have := List.any_eq_false.1 hq s hs
          simp [badS] at this; omega
        have c3 := ref_Written A A' n c k c' ls L w1 ((h.below hb1).more hb1.size) ((h'.below hb1).more hb1.size) hz (by omega) hok
        have hn1 : n1 ≤ 512 := by
          have h5 := ho1.reads.bool_len
          have := HWL.out
          rw [H'.out] at this; omega
        clear e1 hq hr
        go_wp2_with (first | (go_at_call 18; refine c3.mono ?_; clear c3; rintro e w2 ⟨A2, n2, k2, rfl, ho2, hb2⟩; have c4 := ref_Bools A1 A2 n1 n2 k1 k2 (wrL ls L) (wrL ls L) true w2 (ho1.reads.below hb2) ho2.reads (by unfold maxLen; omega) (by simp [Hid])) | (go_at_call 17; refine c4.mono ?_; rintro e w3 ⟨rfl, m3, rfl⟩))
        go_ret
        exact ⟨rfl, below_drewN (hb1.trans (hb2.mono hb1.size)) _⟩
      · have hxz := hr.out
        rw [hq, if_pos rfl] at hxz
        injection hxz with e1 e2
        subst e1
        subst e2
        have hn1 : n1 = 0 := ho1.len.symm
        subst hn1
        clear hq hr
        go_wp2
        go_ret
        exact ⟨rfl, hb1⟩
theorem PrefixWrites_walk (A : Option Addr) (n c : Nat) (ls : List (List Bool)) (A' : Option Addr) (m c' : Nat) (L : List Int) (w : World) (h : Reads2 w w.heap.size A n ls) (hn : n * 24 ≤ reachBytes) (h' : Reads w w.heap.size A' m (vi .i64 L)) (_ : ∀ z ∈ L, (Lit.int .i64 z).wf = true) (hm : m * 8 ≤ reachBytes) :
    Calls Try.prog 3 #[.slice A n c, .slice A' m c'] w (LawTrue w) := by
  have hn' : n ≤ maxLen := by have := reachBytes_lt; unfold maxLen; omega
  have hm' : m ≤ 140737488355328 := by have := reachBytes_lt; omega
  by_cases h0 : codeErr ls = 0
  · by_cases h1 : 64 < m
    · exact law_PrefWr_bad A A' n c m c' ls L 0 1 w h h' hn' hm' h0 (by omega) (.inr ⟨rfl, rfl, h1⟩) (prefix_Write_long A A' n c m c' ls w h hn' h0 h1)
    · exact law_PrefWr_main A A' n c m c' ls L w h h' h0 (by omega)
  · exact law_PrefWr_bad A A' n c m c' ls L (codeErr ls) (codeErr ls) w h h' hn' hm' rfl h0 (.inl rfl) (prefix_Write_err A A' n c m c' ls (codeErr ls) w h hn' rfl (by simpa using h0))
end Go.Proofs.Ytfhpgiidcggobaa

import Derived.Test.YtmepiiheidmbgaaProg
import Derived.Test.YtmepiiheidmbgaaOwn
import Derived.Test.YtmepiiheidmbgaaBools
set_option linter.unusedVariables false
namespace Go.Proofs.Ytmepiiheidmbgaa
open Go.RowKit

theorem el_bool : Elem Try.prog 23 4 (.bool false) 1 := Elem.mk' Try.underlying23 (by kernel_rfl) rfl

/-! ### plain words -/
def stStep (s : List Bool × Nat) (b : Bool) : List Bool × Nat :=
  if b then (if s.2 + 1 = 5 then (s.1 ++ [b] ++ [false], 0) else (s.1 ++ [b], s.2 + 1)) else (s.1 ++ [b], 0)
def stF (l : List Bool) : List Bool × Nat := l.foldl stStep ([], 0)
def rfStep (s : List Bool × Nat) (b : Bool) : List Bool × Nat :=
  if b then (if (s.2 + 1) % 5 = 0 then (s.1 ++ [b] ++ [false], s.2 + 1) else (s.1 ++ [b], s.2 + 1)) else (s.1 ++ [b], 0)
def rfF (l : List Bool) : List Bool × Nat := l.foldl rfStep ([], 0)
theorem st_rf (l : List Bool) : ∀ s s' : List Bool × Nat, s.1 = s'.1 → s.2 = s'.2 % 5 → (l.foldl stStep s).1 = (l.foldl rfStep s').1 := by
  induction l with
  | nil => intro s s' h _; exact h
  | cons b l ih =>
    intro s s' h1 h2
    simp only [List.foldl_cons]
    apply ih
    · unfold stStep rfStep
      rw [h1]
      cases b
      · rfl
      · by_cases h : s.2 + 1 = 5
        · rw [if_pos rfl, if_pos h, if_pos rfl, if_pos (by omega)]
        · rw [if_pos rfl, if_neg h, if_pos rfl, if_neg (by omega)]
    · unfold stStep rfStep
      cases b
      · rfl
      · by_cases h : s.2 + 1 = 5
        · rw [if_pos rfl, if_pos h, if_pos rfl, if_pos (by omega)]; simp only; omega
        · rw [if_pos rfl, if_neg h, if_pos rfl, if_neg (by omega)]; simp only; omega
theorem stF_rfF (l : List Bool) : (stF l).1 = (rfF l).1 := st_rf l _ _ rfl rfl
theorem stF_next {l : List Bool} {k : Nat} {x : Bool} (h : l[k]? = some x) : stF (l.take (k + 1)) = stStep (stF (l.take k)) x := by
  rw [take_next h]; unfold stF; rw [List.foldl_append]; rfl
theorem rfF_next {l : List Bool} {k : Nat} {x : Bool} (h : l[k]? = some x) : rfF (l.take (k + 1)) = rfStep (rfF (l.take k)) x := by
  rw [take_next h]; unfold rfF; rw [List.foldl_append]; rfl
/-- how many ones stand at the end -/
def tr (l : List Bool) : Nat := l.foldl (fun r b => if b then r + 1 else 0) 0
theorem tr_next {l : List Bool} {k : Nat} {x : Bool} (h : l[k]? = some x) : tr (l.take (k + 1)) = if x then tr (l.take k) + 1 else 0 := by
  rw [take_next h]; unfold tr; rw [List.foldl_append]; rfl
theorem rfF_tr (l : List Bool) (s : List Bool × Nat) : (l.foldl rfStep s).2 = l.foldl (fun r b => if b then r + 1 else 0) s.2 := by
  induction l generalizing s with
  | nil => rfl
  | cons b l ih =>
    simp only [List.foldl_cons]
    rw [ih]
    congr 1
    unfold rfStep
    cases b
    · rfl
    · simp only [if_true]; split <;> rfl

theorem rf_out (out : List Bool) (q : Nat) (x : Bool) : rfStep (out, q) x = (out ++ [x] ++ (if 0 < (if x then q + 1 else 0) ∧ (if x then q + 1 else 0) % 5 = 0 then [false] else []), if x then q + 1 else 0) := by
  unfold rfStep
  cases x
  · simp
  · by_cases h : (q + 1) % 5 = 0 <;> simp [h]

/-! ### the walks -/
set_option maxHeartbeats 800000 in
theorem stuff_stuff (A : Option Addr) (n c : Nat) (l : List Bool) (w : World) (h : Reads w w.heap.size A n (vb l)) (hn : n ≤ 1000) :
    Calls Try.prog 52 #[.slice A n c] w (RetS w 4 (vb (stF l).1)) := by
  have H := Lib.hid h.bool_len
  go_enter Try.func52, Try.ntmps52
  go_wp2
  go_loopw [3, 4, 9] (fun v q i wr => ∃ (k : Nat) (out : List Bool) (o : Nat), k ≤ n ∧ i = .int .i64 k ∧ q = .int .i64 o ∧ o ≤ 4 ∧ out.length ≤ 2 * k ∧ Own wr w.heap.size 4 v (vb out) ∧ Below w.heap.size w wr ∧ Hid (stF (l.take k) = (out, o))) (fun _ _ i _ => n - (intOf i).toNat)
  case atStart => exact ⟨0, [], 0, by omega, rfl, rfl, by omega, by simp, Own.nil _ _ _, Below.refl _ _, rfl⟩
  case round =>
    obtain ⟨k, out, o, hk, rfl, rfl, ho, hlen, hown, hbel, hst⟩ := hrel
    by_cases hlt : k < n
    · obtain ⟨ad, x, rfl, hb, hx, hc0⟩ := h.bool_at hlt
      have hc : wr.cell? (ad.add k) = some (.bool x) := (hbel.cell (by rw [block_of_add]; exact hb)).trans hc0
      have HS : Hid (stF (l.take (k + 1)) = stStep (out, o) x) := by unfold Hid; rw [stF_next hx, hst.out]
      have hB := hbel.size
      have hl : (vb out).length ≤ 2000 := by rw [List.length_map]; omega
      clear hx hc0
      cases x
      · go_wp2_with (at_builtin; refine app1 el_bool rfl _ _ rfl rfl hown _ _ rfl rfl (by unfold maxLen; omega) (by omega) hB ?_; intro v1 w1 ho1 hb1 _ _)
        go_roundw
        case rel => exact ⟨k + 1, out ++ [false], 0, by omega, by go_num, rfl, by omega, by simp; omega, by simpa [vb] using ho1, hbel.trans hb1, HS⟩
        case measure => simp [intOf]; omega
      · by_cases h5 : o + 1 = 5
        · obtain rfl : o = 4 := by omega
          clear h5
          go_wp2_with (first | (at_builtin; refine app1 el_bool rfl _ _ rfl rfl hown _ _ rfl rfl (by unfold maxLen; omega) (by omega) hB ?_; intro v1 w1 ho1 hb1 _ _; have hl1 : (vb out ++ [Value.bool true]).length ≤ 2001 := (by simp; simp at hl; omega); have hB1 := Nat.le_trans hB hb1.size) | (at_builtin; refine app1 el_bool rfl _ _ rfl rfl ho1 _ _ rfl rfl (by unfold maxLen; omega) (by omega) hB1 ?_; intro v2 w2 ho2 hb2 _ _))
          go_roundw
          case rel => exact ⟨k + 1, out ++ [true] ++ [false], 0, by omega, by go_num, rfl, by omega, by simp; omega, by simpa [vb] using ho2, (hbel.trans hb1).trans hb2, HS⟩
          case measure => simp [intOf]; omega
        · have HS' : Hid (stF (l.take (k + 1)) = (out ++ [true], o + 1)) := by
            unfold Hid; rw [HS.out]; unfold stStep; rw [if_pos rfl, if_neg h5]
          have h5b : ((o : Int) + 1 == 5) = false := by simp; omega
          clear HS
          go_wp2_with (at_builtin; refine app1 el_bool rfl _ _ rfl rfl hown _ _ rfl rfl (by unfold maxLen; omega) (by omega) hB ?_; intro v1 w1 ho1 hb1 _ _)
          go_roundw
          case rel => exact ⟨k + 1, out ++ [true], o + 1, by omega, by go_num, by go_num, by omega, by simp; omega, by simpa [vb] using ho1, hbel.trans hb1, HS'⟩
          case measure => simp [intOf]; omega
    · obtain rfl : k = n := by omega
      have ht := hst.out
      rw [List.take_of_length_le (Nat.le_of_eq H.out)] at ht
      have HT := Lib.hid ht
      clear ht
      obtain ⟨A2, c2, e⟩ := hown.form
      generalize (vb out).length = n2 at e
      subst e
      go_wp2
      go_ret
      exact ⟨A2, _, c2, rfl, by rw [HT.out]; exact hown, hbel⟩

set_option maxHeartbeats 1600000 in
theorem ref_Stuffed (A : Option Addr) (n c : Nat) (l : List Bool) (w : World) {B : Nat} (h : Reads w B A n (vb l)) (hBw : B ≤ w.heap.size) (hn : n ≤ 1000) :
    Calls Try.prog 54 #[.slice A n c] w (RetS w 4 (vb (rfF l).1)) := by
  have H := Lib.hid h.bool_len
  go_enter Try.func54, Try.ntmps54
  go_wp2
  go_loopw [3, 10] (fun v i wr => ∃ (k : Nat) (out : List Bool), k ≤ n ∧ i = .int .i64 k ∧ out.length ≤ 2 * k ∧ Own wr w.heap.size 4 v (vb out) ∧ Below w.heap.size w wr ∧ Hid (rfF (l.take k) = (out, tr (l.take k)))) (fun _ i _ => n - (intOf i).toNat)
  case atStart => exact ⟨0, [], by omega, rfl, by simp, Own.nil _ _ _, Below.refl _ _, rfl⟩
  case round =>
    obtain ⟨k, out, hk, rfl, hlen, hown, hbel, hst⟩ := hrel
    by_cases hlt : k < n
    · obtain ⟨ad, x, rfl, hb, hx, hc0⟩ := h.bool_at hlt
      have hc : wr.cell? (ad.add k) = some (.bool x) := (hbel.cell (by rw [block_of_add]; omega)).trans hc0
      have HS : Hid (rfF (l.take (k + 1)) = rfStep (out, tr (l.take k)) x) := by unfold Hid; rw [rfF_next hx, hst.out]
      have HT : Hid (tr (l.take (k + 1)) = if x then tr (l.take k) + 1 else 0) := tr_next hx
      have hB := hbel.size
      have hl : (vb out).length ≤ 2000 := by rw [List.length_map]; omega
      clear hx hc0
      go_wp2_with (at_builtin; refine app1 el_bool rfl _ _ rfl rfl hown _ _ rfl rfl (by unfold maxLen; omega) (by omega) hB ?_; intro v1 w1 ho1 hb1 _ _)
      have hbel1 := hbel.trans hb1
      clear hc
      go_loop [6, 7] (fun r j => ∃ t : Nat, t ≤ k + 1 ∧ r = .int .i64 t ∧ j = .int .i64 (k - t) ∧ Hid (tr (l.take (k + 1)) = t + tr (l.take (k + 1 - t)))) (fun _ j => (intOf j + 1).toNat)
      case atStart => exact ⟨0, by omega, rfl, by simp, by unfold Hid; simp⟩
      case round =>
        obtain ⟨t, ht, rfl, rfl, htr⟩ := hrel
        by_cases hcont : t ≤ k ∧ l[k - t]? = some true
        · obtain ⟨ht2, hy⟩ := hcont
          obtain ⟨ad', y, e', hb', hy', hcy0⟩ := h.bool_at (k := k - t) (by omega)
          obtain rfl : true = y := by rw [hy] at hy'; injection hy'
          have hcy : w1.cell? (ad.add (k - t)) = some (.bool true) := by
            injection e' with e'; subst e'
            exact (hbel1.cell (by rw [block_of_add]; omega)).trans hcy0
          have HN' : Hid (tr (l.take (k + 1)) = t + 1 + tr (l.take (k + 1 - (t + 1)))) := by
            have := tr_next hy
            unfold Hid; rw [htr.out, show k + 1 - t = k - t + 1 from by omega, this]; simp only [if_true]
            rw [show k + 1 - (t + 1) = k - t from by omega]; omega
          have i1 : (0 : Int) ≤ (k : Int) - t := by omega
          clear hy hy' hcy0 e' hb'
          go_wp2
          go_round
          case rel => exact ⟨t + 1, by omega, by go_num, by go_num, HN'⟩
          case measure => simp [intOf]; omega
        · have hcell : t ≤ k → w1.cell? (ad.add (k - t)) = some (.bool false) ∧ l[k - t]? = some false := by
            intro ht2
            obtain ⟨ad', y, e', hb', hy', hcy0⟩ := h.bool_at (k := k - t) (by omega)
            injection e' with e'; subst e'
            cases y
            · exact ⟨(hbel1.cell (by rw [block_of_add]; omega)).trans hcy0, hy'⟩
            · exact absurd ⟨ht2, hy'⟩ hcont
          have HR : Hid (tr (l.take (k + 1)) = t) := by
            unfold Hid
            rw [htr.out]
            by_cases ht2 : t ≤ k
            · have := tr_next (hcell ht2).2
              rw [show k + 1 - t = k - t + 1 from by omega, this]; rfl
            · rw [show k + 1 - t = 0 from by omega]; rfl
          have HO : Hid (rfF (l.take (k + 1)) = (out ++ [x] ++ (if 0 < t ∧ t % 5 = 0 then [false] else []), tr (l.take (k + 1)))) := by
            unfold Hid; rw [HS.out, rf_out, ← HT.out, HR.out]
          have hcell' : t ≤ k → w1.cell? (ad.add (k - t)) = some (.bool false) := fun h => (hcell h).1
          have hl1 : (vb out ++ [Value.bool x]).length ≤ 2001 := by simp; simp at hl; omega
          have hB1 := Nat.le_trans hB hb1.size
          clear hcont hcell htr HS HT
          by_cases ht2 : t ≤ k
          all_goals
            try have hcy := hcell' ht2
            have i1 : t ≤ k → (0 : Int) ≤ (k : Int) - t := by omega
            try have i2 := i1 ht2
            clear hcell' i1
            by_cases h5 : 0 < t ∧ t % 5 = 0
            · have HO' : Hid (rfF (l.take (k + 1)) = (out ++ [x] ++ [false], tr (l.take (k + 1)))) := by have := HO.out; rw [if_pos h5] at this; exact this
              have h50 : (0 : Int) < (t : Int) := by omega
              have h51 : ((t : Int) % 5 == 0) = true := by simp; omega
              clear HO h5
              go_wp2_with (at_builtin; refine app1 el_bool rfl _ _ rfl rfl ho1 _ _ rfl rfl (by unfold maxLen; omega) (by omega) hB1 ?_; intro v2 w2 ho2 hb2 _ _)
              go_roundw
              case rel => exact ⟨k + 1, out ++ [x] ++ [false], by omega, by go_num, by simp; omega, by simpa [vb] using ho2, hbel1.trans hb2, HO'⟩
              case measure => simp [intOf]; omega
            · have HO' : Hid (rfF (l.take (k + 1)) = (out ++ [x], tr (l.take (k + 1)))) := by have := HO.out; rw [if_neg h5, List.append_nil] at this; exact this
              have h51 : (0 : Int) < (t : Int) → ((t : Int) % 5 == 0) = false := by intro _; simp; omega
              clear HO
              by_cases h50 : (0 : Int) < (t : Int)
              all_goals
                try have h52 := h51 h50
                clear h51
                go_wp2
                all_goals
                  go_roundw
                  case rel => exact ⟨k + 1, out ++ [x], by omega, by go_num, by simp; omega, by simpa [vb] using ho1, hbel1, HO'⟩
                  case measure => simp [intOf]; omega
    · obtain rfl : k = n := by omega
      have ht := hst.out
      rw [List.take_of_length_le (Nat.le_of_eq H.out)] at ht
      have HT := Lib.hid ht
      clear ht
      obtain ⟨A2, c2, e⟩ := hown.form
      generalize (vb out).length = n2 at e
      subst e
      go_wp2
      go_ret
      exact ⟨A2, _, c2, rfl, by rw [HT.out]; exact hown, hbel⟩
theorem st_len (l : List Bool) : ∀ s : List Bool × Nat, (l.foldl stStep s).1.length ≤ s.1.length + 2 * l.length := by
  induction l with
  | nil => intro s; simp
  | cons b l ih =>
    intro s
    simp only [List.foldl_cons, List.length_cons]
    refine Nat.le_trans (ih _) ?_
    have : (stStep s b).1.length ≤ s.1.length + 2 := by
      unfold stStep; split
      · split <;> simp
      · simp
    omega
theorem stF_len (l : List Bool) : (vb (stF l).1).length ≤ 2 * l.length := by
  have := st_len l ([], 0)
  rw [List.length_map]; simpa [stF] using this
theorem stuff_stuff' (A : Option Addr) (n c : Nat) (l : List Bool) (w : World) (h : Reads w w.heap.size A n (vb l)) (hn : n ≤ 1000) :
    Calls Try.prog 52 #[.slice A n c] w (RetR w (vb (stF l).1)) :=
  (stuff_stuff A n c l w h hn).mono fun _ _ h2 => h2.reads (by have := stF_len l; have := h.bool_len; unfold maxLen; omega)
theorem ref_Stuffed' (A : Option Addr) (n c : Nat) (l : List Bool) (w : World) {B : Nat} (h : Reads w B A n (vb l)) (hBw : B ≤ w.heap.size) (hn : n ≤ 1000) :
    Calls Try.prog 54 #[.slice A n c] w (RetR w (vb (rfF l).1)) :=
  (ref_Stuffed A n c l w h hBw hn).mono fun _ _ h2 => h2.reads (by rw [← stF_rfF]; have := stF_len l; have := h.bool_len; unfold maxLen; omega)

end Go.Proofs.Ytmepiiheidmbgaa

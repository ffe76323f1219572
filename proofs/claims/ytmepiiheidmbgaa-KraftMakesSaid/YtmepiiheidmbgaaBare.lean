import Derived.Test.YtmepiiheidmbgaaStuff
import Derived.Test.YtmepiiheidmbgaaStore
import Derived.Test.YtmepiiheidmbgaaQuiet
import Derived.Test.YtmepiiheidmbgaaGuard
set_option linter.unusedVariables false
namespace Go.Proofs.Ytmepiiheidmbgaa
open Go.RowKit

theorem Reads.takeS {w : World} {B n k : Nat} {A : Option Addr} {l : List Bool} (h : Reads w B A n (vb l)) (hk : k ≤ n) : Reads w B A k (vb (l.take k)) := by
  have := h.take hk
  rwa [← List.map_take] at this
theorem vb_oneS (l : List Bool) : ∀ u ∈ vb l, u.oneCell' = true := by
  intro u hu; obtain ⟨x, _, rfl⟩ := List.mem_map.1 hu; rfl
/-- is a the beginning of b -/
def begB (a b : List Bool) : Bool := decide (a.length ≤ b.length) && decide (a = b.take a.length)
set_option maxHeartbeats 400000 in
theorem ref_Begins (A A' : Option Addr) (n n' c c' : Nat) (l l' : List Bool) (b : Bool) (w : World) {B B' : Nat} (h : Reads w B A n (vb l)) (h' : Reads w B' A' n' (vb l')) (hn : n ≤ maxLen) (hc : n' ≤ c') (hr : Hid (begB l l' = b)) :
    Calls Try.prog 72 #[.slice A n c, .slice A' n' c'] w (RetQ w (.bool b)) := by
  have H := Lib.hid h.bool_len
  have H' := Lib.hid h'.bool_len
  by_cases hle : n ≤ n'
  · have c1 := ref_Bools A A' n n c c' l (l'.take n) b w h (h'.takeS hle) hn (by
      unfold Hid; rw [← hr.out, begB, H.out, H'.out, decide_eq_true hle, Bool.true_and])
    have hcn : n ≤ c' := by omega
    have hli : (n : Int) ≤ (n' : Int) := Int.ofNat_le.2 hle
    rcases A' with _ | ad
    · have hn0 : n' = 0 := by
        rcases Nat.eq_zero_or_pos n' with h0 | h0
        · exact h0
        · obtain ⟨ad, e⟩ := h'.addr h0; cases e
      have hnz : n = 0 := by omega
      subst hnz
      clear hn0
      go_enter Try.func72, Try.ntmps72
      go_wp2_with (go_at_call 16; refine c1.mono ?_; rintro e w' ⟨rfl, m, rfl⟩)
      go_ret
      exact ⟨rfl, m, rfl⟩
    · go_enter Try.func72, Try.ntmps72
      go_wp2_with (go_at_call 16; refine c1.mono ?_; rintro e w' ⟨rfl, m, rfl⟩)
      go_ret
      exact ⟨rfl, m, rfl⟩
  · have HB : Hid (b = false) := by unfold Hid; rw [← hr.out, begB, H.out, H'.out, decide_eq_false hle, Bool.false_and]
    have hli : ¬ (n : Int) ≤ (n' : Int) := by omega
    go_enter Try.func72, Try.ntmps72
    go_wp2
    go_ret
    exact ⟨ret_b HB.out.symm, 0, rfl⟩

/-! ### bare: plain words -/
def bareR : Nat → List Bool → Option (List Bool)
  | r, [] => if r < 5 then some [] else none
  | r, b :: t => if r = 5 then (if b then none else bareR 0 t) else (bareR (if b then r + 1 else 0) t).map (b :: ·)
theorem bareR_end {r : Nat} : bareR r [] = if r < 5 then some [] else none := by rw [bareR]
theorem bareR_five {b : Bool} {t : List Bool} : bareR 5 (b :: t) = if b then none else bareR 0 t := by rw [bareR, if_pos rfl]
theorem bareR_next {r : Nat} {b : Bool} {t : List Bool} (h : r ≠ 5) : bareR r (b :: t) = (bareR (if b then r + 1 else 0) t).map (b :: ·) := by rw [bareR, if_neg h]
theorem map_cons (o : Option (List Bool)) (out : List Bool) (b : Bool) : (o.map (b :: ·)).map (out ++ ·) = o.map (out ++ [b] ++ ·) := by
  cases o with
  | none => rfl
  | some x => simp
/-- what it comes to -/
def BareP (w : World) (e : Ending) (w' : World) : Option (List Bool) → Prop
  | some xs => ∃ A n c, e = .returned (.tuple #[.slice A n c, .bool true]) ∧ Own w' w.heap.size 4 (.slice A n c) (vb xs) ∧ Below w.heap.size w w'
  | none => ∃ A n c, e = .returned (.tuple #[.slice A n c, .bool false]) ∧ Below w.heap.size w w'

set_option maxHeartbeats 800000 in
theorem stuff_bare (A : Option Addr) (n c : Nat) (l : List Bool) (res : Option (List Bool)) (w : World) (h : Reads w w.heap.size A n (vb l)) (hn : n ≤ 1000) (hr : Hid (bareR 0 l = res)) :
    Calls Try.prog 56 #[.slice A n c] w (fun e w' => BareP w e w' res) := by
  have H := Lib.hid h.bool_len
  go_enter Try.func56, Try.ntmps56
  go_wp2
  go_loopw [4, 5, 10] (fun v q i wr => ∃ (k : Nat) (out : List Bool) (o : Nat), k ≤ n ∧ i = .int .i64 k ∧ q = .int .i64 o ∧ o ≤ 5 ∧ out.length ≤ k ∧ Own wr w.heap.size 4 v (vb out) ∧ Below w.heap.size w wr ∧ Hid ((bareR o (l.drop k)).map (out ++ ·) = res)) (fun _ _ i _ => n - (intOf i).toNat)
  case atStart => exact ⟨0, [], 0, by omega, rfl, rfl, by omega, by simp, Own.nil _ _ _, Below.refl _ _, by unfold Hid; rw [← hr.out]; cases h : bareR 0 l <;> simp [h]⟩
  case round =>
    obtain ⟨k, out, o, hk, rfl, rfl, ho, hlen, hown, hbel, hst⟩ := hrel
    by_cases hlt : k < n
    · obtain ⟨ad, x, rfl, hb, hx, hc⟩ := (h.below hbel).bool_at hlt
      have HD := Lib.hid (drop_next hx)
      have hB := hbel.size
      have hl : (vb out).length ≤ 1000 := by rw [List.length_map]; omega
      clear hx
      by_cases h5 : o = 5
      · have e5 : ((o : Int) == 5) = true := by simp; omega
        have HS : Hid ((if x then none else bareR 0 (l.drop (k + 1))).map (out ++ ·) = res) := by
          unfold Hid; rw [← hst.out, HD.out, h5, bareR_five]
        clear h5
        cases x
        · have HS' : Hid ((bareR 0 (l.drop (k + 1))).map (out ++ ·) = res) := HS.out
          go_wp2
          go_roundw
          case rel => exact ⟨k + 1, out, 0, by omega, by go_num, rfl, by omega, by omega, hown, hbel, HS'⟩
          case measure => simp [intOf]; omega
        · have HN : Hid (res = none) := by unfold Hid; rw [← HS.out]; rfl
          go_wp2
          go_ret2
          rw [HN.out]
          exact ⟨none, 0, 0, rfl, hbel⟩
      · have e5 : ((o : Int) == 5) = false := by simp; omega
        have HS : Hid ((bareR (if x then o + 1 else 0) (l.drop (k + 1))).map (out ++ [x] ++ ·) = res) := by
          unfold Hid; rw [← hst.out, HD.out, bareR_next h5, map_cons]
        have ho4 : o ≤ 4 := by omega
        clear h5
        cases x
        · go_wp2_with (at_builtin; refine app1 el_bool rfl _ _ rfl rfl hown _ _ rfl rfl (by unfold maxLen; omega) (by omega) hB ?_; intro v1 w1 ho1 hb1 _ _)
          go_roundw
          case rel => exact ⟨k + 1, out ++ [false], 0, by omega, by go_num, rfl, by omega, by simp; omega, by simpa [vb] using ho1, hbel.trans hb1, HS⟩
          case measure => simp [intOf]; omega
        · go_wp2_with (at_builtin; refine app1 el_bool rfl _ _ rfl rfl hown _ _ rfl rfl (by unfold maxLen; omega) (by omega) hB ?_; intro v1 w1 ho1 hb1 _ _)
          go_roundw
          case rel => exact ⟨k + 1, out ++ [true], o + 1, by omega, by go_num, by go_num, by omega, by simp; omega, by simpa [vb] using ho1, hbel.trans hb1, HS⟩
          case measure => simp [intOf]; omega
    · obtain rfl : k = n := by omega
      obtain ⟨A2, c2, e⟩ := hown.form
      generalize hn2 : (vb out).length = n2 at e
      subst e
      clear hn2
      have HE : Hid ((if o < 5 then some [] else none).map (out ++ ·) = res) := by
        unfold Hid; rw [← hst.out, List.drop_of_length_le (Nat.le_of_eq H.out), bareR_end]
      by_cases h5 : o < 5
      · have d5 : decide ((o : Int) < 5) = true := decide_eq_true (by omega)
        have HN : Hid (res = some out) := by unfold Hid; rw [← HE.out, if_pos h5]; simp
        clear h5
        go_wp2
        go_ret2
        rw [HN.out]
        exact ⟨A2, n2, c2, rfl, hown, hbel⟩
      · have d5 : decide ((o : Int) < 5) = false := decide_eq_false (by omega)
        have HN : Hid (res = none) := by unfold Hid; rw [← HE.out, if_neg h5]; rfl
        clear h5
        go_wp2
        go_ret2
        rw [HN.out]
        exact ⟨A2, n2, c2, rfl, hbel⟩

def slen : Value → Nat
  | .slice _ n _ => n
  | _ => 0
theorem slen_slice (A : Option Addr) (n c : Nat) : slen (.slice A n c) = n := rfl
theorem stF_snoc (xs : List Bool) (b : Bool) : stF (xs ++ [b]) = stStep (stF xs) b := by unfold stF; rw [List.foldl_append]; rfl
theorem stF_r (xs : List Bool) : (stF xs).2 ≤ 4 := by
  have : ∀ l : List Bool, ∀ s : List Bool × Nat, s.2 ≤ 4 → (l.foldl stStep s).2 ≤ 4 := by
    intro l
    induction l with
    | nil => intro s h; exact h
    | cons b l ih =>
      intro s h
      refine ih _ ?_
      unfold stStep
      split
      · split
        · simp
        · simp only; omega
      · simp
  exact this xs _ (by simp)
theorem stF_ge (xs : List Bool) : xs.length ≤ (stF xs).1.length := by
  have : ∀ l : List Bool, ∀ s : List Bool × Nat, s.1.length + l.length ≤ (l.foldl stStep s).1.length := by
    intro l
    induction l with
    | nil => intro s; simp
    | cons b l ih =>
      intro s
      refine Nat.le_trans ?_ (ih _)
      have : s.1.length + 1 ≤ (stStep s b).1.length := by
        unfold stStep
        split
        · split <;> simp
        · simp
      simp only [List.length_cons]; omega
  have := this xs ([], 0)
  unfold stF
  simpa using this
/-- one round of the reference -/
theorem bare_round {l xs : List Bool} {b : Bool} {m : Nat} (hst : (stF xs).1 = l.take m) (hm : (stF xs).1.length = m) (hb : l[m]? = some b) (res : Option (List Bool))
    (hres : (bareR (stF xs).2 (l.drop m)).map (xs ++ ·) = res) :
    (begB (stF (xs ++ [b])).1 l = false → res = none) ∧
    (begB (stF (xs ++ [b])).1 l = true → (stF (xs ++ [b])).1 = l.take (stF (xs ++ [b])).1.length ∧ (stF (xs ++ [b])).1.length ≤ l.length ∧ (bareR (stF (xs ++ [b])).2 (l.drop (stF (xs ++ [b])).1.length)).map (xs ++ [b] ++ ·) = res) := by
  have hr := stF_r xs
  have hlt := (List.getElem?_eq_some_iff.1 hb).1
  rw [drop_next hb, bareR_next (by omega), map_cons] at hres
  have htk := take_next hb
  rw [stF_snoc]
  generalize hs : stF xs = s at *
  obtain ⟨st, r⟩ := s
  simp only at *
  by_cases h4 : b = true ∧ r + 1 = 5
  · obtain ⟨rfl, h5⟩ := h4
    have hS : stStep (st, r) true = (l.take (m + 1) ++ [false], 0) := by
      unfold stStep; rw [if_pos rfl]; simp only [h5, if_true]; rw [hst, htk]
    rw [hS]
    simp only [if_true, h5] at hres ⊢
    have hl1 : (l.take (m + 1) ++ [false]).length = m + 2 := by rw [List.length_append, List.length_take]; simp; omega
    rw [hl1]
    unfold begB
    rw [hl1]
    constructor
    · intro hbg
      rw [← hres]
      cases hd : l.drop (m + 1) with
      | nil => rw [bareR_end]; rfl
      | cons y t =>
        rw [bareR_five]
        cases y
        · exfalso
          have hy : l[m + 1]? = some false := by
            have := List.getElem?_drop (xs := l) (i := m + 1) (j := 0)
            rw [hd] at this; simpa using this.symm
          have hlt2 := (List.getElem?_eq_some_iff.1 hy).1
          rw [show m + 2 = (m + 1) + 1 from rfl, take_next hy] at hbg
          simp at hbg; omega
        · rfl
    · intro hbg
      simp only [Bool.and_eq_true, decide_eq_true_eq] at hbg
      obtain ⟨h1, h2⟩ := hbg
      have hlt2 : m + 1 < l.length := by omega
      have hy : l[m + 1]? = some (l[m + 1]'hlt2) := List.getElem?_eq_getElem hlt2
      generalize l[m + 1]'hlt2 = y at hy
      rw [show m + 2 = (m + 1) + 1 from rfl, take_next hy] at h2
      have hyf : y = false := by
        have := List.append_cancel_left h2
        injection this with this; exact this.symm
      subst hyf
      refine ⟨by rw [show m + 2 = (m + 1) + 1 from rfl, take_next hy], h1, ?_⟩
      rw [← hres, drop_next hy, bareR_five]; rfl
  · have hS : stStep (st, r) b = (l.take (m + 1), if b then r + 1 else 0) := by
      unfold stStep
      cases b
      · simp only [Bool.false_eq_true, if_false]; rw [hst, htk]
      · rw [if_pos rfl, if_neg (by intro h; exact h4 ⟨rfl, h⟩)]; simp only [if_true]; rw [hst, htk]
    rw [hS]
    have hl1 : (l.take (m + 1)).length = m + 1 := by rw [List.length_take]; omega
    simp only [hl1]
    have hbt : begB (l.take (m + 1)) l = true := by
      unfold begB; rw [hl1]; simp; omega
    rw [hbt]
    exact ⟨fun h => (by cases h), fun _ => ⟨trivial, by omega, hres⟩⟩
set_option maxHeartbeats 600000 in
theorem ref_Bared (A : Option Addr) (n c : Nat) (l : List Bool) (res : Option (List Bool)) (w : World) (h : Reads w w.heap.size A n (vb l)) (hn : n ≤ 1000) (hc : n ≤ c) (hr : Hid (bareR 0 l = res)) :
    Calls Try.prog 57 #[.slice A n c] w (fun e w' => BareP w e w' res) := by
  have H := Lib.hid h.bool_len
  go_enter Try.func57, Try.ntmps57
  go_wp2
  go_loopw [4] (fun v wr => ∃ (xs : List Bool), Own wr w.heap.size 4 v (vb xs) ∧ Below w.heap.size w wr ∧ (stF xs).1.length ≤ n ∧ Hid ((stF xs).1 = l.take (stF xs).1.length) ∧ Hid ((bareR (stF xs).2 (l.drop (stF xs).1.length)).map (xs ++ ·) = res)) (fun v _ => n + 1 - slen v)
  case atStart => exact ⟨[], Own.nil _ _ _, Below.refl _ _, by simp [stF], rfl, by unfold Hid; rw [← hr.out]; show (bareR 0 l).map _ = _; cases bareR 0 l <;> simp⟩
  case round =>
    obtain ⟨xs, hown, hb, hmn, htk, hres⟩ := hrel
    obtain ⟨m, hm⟩ : ∃ m, (stF xs).1.length = m := ⟨_, rfl⟩
    rw [hm] at hmn
    have hB := hb.size
    obtain ⟨A1, c1, e1⟩ := hown.form
    obtain ⟨q, hq⟩ : ∃ q, (vb xs).length = q := ⟨_, rfl⟩
    rw [hq] at e1
    subst e1
    have hqm : q ≤ m := by rw [← hq, List.length_map, ← hm]; exact stF_ge xs
    have HQ := Lib.hid hq
    have HM := Lib.hid hm
    have cs := fun (w' : World) (A' : Option Addr) (n' c' : Nat) (l' : List Bool) (hrd : Reads w' w'.heap.size A' n' (vb l')) (hn' : n' ≤ 1000) => ref_Stuffed A' n' c' l' w' hrd (Nat.le_refl _) hn'
    have cs1 := cs wr A1 q c1 xs hown.reads (by omega)
    have hl1 : (vb (rfF xs).1).length = m := by rw [List.length_map, ← stF_rfF, hm]
    have HL1 := Lib.hid hl1
    clear hl1 hq hm
    by_cases hlt : m < n
    · obtain ⟨ad, b, e, hbb, hx, hcx0⟩ := h.bool_at hlt
      subst e
      have hround := bare_round (xs := xs) (by rw [htk.out, HM.out]) HM.out hx res (by have := hres.out; rw [HM.out] at this; exact this)
      rw [H.out] at hround
      have HR := Lib.hid hround
      have hlen2 : (stF (xs ++ [b])).1.length ≤ 2 * (xs ++ [b]).length := by have := stF_len (xs ++ [b]); rwa [List.length_map] at this
      clear hx hround
      have i1 : (0 : Int) ≤ (m : Int) := Int.natCast_nonneg m
      have i2 : (m : Int) < (n : Int) := Int.ofNat_lt.2 hlt
      have hq : (vb xs).length = q := HQ.out
      have hlb : (rfF (xs ++ [b])).1.length ≤ maxLen := by
        rw [← stF_rfF]; unfold maxLen; rw [List.length_map] at hq; simp at hlen2; omega
      have HLB := Lib.hid hlb
      clear hlb hq hlen2
      cases hbg : begB (stF (xs ++ [b])).1 l
      · have HBG := Lib.hid hbg
        have HRN : Hid (res = none) := HR.out.1 hbg
        clear hbg
        go_wp2_with (first | (go_at_call 54; refine cs1.mono ?_; clear cs1; rintro e w1 ⟨A2, n2, k2, rfl, ho2, hb2⟩; obtain rfl : n2 = m := (by rw [← ho2.len, HL1.out]); have hown1 := hown.below hb2 (Nat.le_refl _); have hB1 : w.heap.size ≤ w1.heap.size := Nat.le_trans hB hb2.size; have hoE : Own (w1.alloc (.cells #[] 4)) w1.heap.size 4 (.slice (some ⟨w1.heap.size, 0, none⟩) 0 0) [] := Own.built w1 #[] 0 rfl (by unfold maxLen; omega) (Nat.le_refl _); have hrE : Reads (w1.alloc (.cells #[] 4)) w1.heap.size A1 q (vb xs) := hown1.reads.alloc (Nat.le_refl _) _; have hbE : Below w1.heap.size w1 (w1.alloc (.cells #[] 4)) := (Below.refl _ _).alloc (Nat.le_refl _) _; have hw1 : Below w.heap.size w w1 := hb.trans (hb2.mono hB)) | (at_builtin; refine appN el_bool rfl _ _ rfl rfl hoE rfl hrE (vb_oneS xs) (by simp; unfold maxLen; omega) (by simp; omega) hbE.size ?_; clear hoE; intro v3 w3 ho3 hb3 _ _; rw [List.nil_append] at ho3; have hb13 := hbE.trans hb3; have hown3 := hown1.below hb13 (Nat.le_refl _); have cs2 := cs w3 A1 q c1 xs hown3.reads (by omega); have hw3 : Below w.heap.size w w3 := hw1.trans (hb13.mono hB1)) | (go_at_call 54; refine cs2.mono ?_; clear cs2; rintro e w4 ⟨A4, n4, k4, rfl, ho4, hb4⟩; obtain rfl : n4 = n2 := (by rw [← ho4.len, HL1.out]); have hw4 : Below w.heap.size w w4 := hw3.trans (hb4.mono hw3.size); have hcx : w4.cell? (ad.add n4) = some (.bool b) := (hw4.cell (by rw [block_of_add]; exact hbb)).trans hcx0; have ho3' := ho3.below hb4 (Nat.le_refl _); have hB4 : w1.heap.size ≤ w4.heap.size := Nat.le_trans hb13.size hb4.size) | (at_builtin; refine app1 el_bool rfl _ _ rfl rfl ho3' _ _ rfl rfl (by rw [HQ.out]; unfold maxLen; omega) (by rw [HQ.out]; omega) hB4 ?_; intro v5 w5 ho5 hb5 _ _; obtain ⟨A5, c5, e5⟩ := ho5.form; rw [List.length_append, HQ.out] at e5; subst e5; have ho5' : Own w5 w1.heap.size 4 (.slice A5 (q + [Value.bool b].length) c5) (vb (xs ++ [b])) := (by simpa [vb] using ho5); have cs5 := cs w5 A5 _ c5 (xs ++ [b]) ho5'.reads (by simp; omega); have hw5 : Below w.heap.size w w5 := hw4.trans (hb5.mono hB1)) | (go_at_call 54; refine cs5.mono ?_; rintro e w6 ⟨A6, n6, k6, rfl, ho6, hb6⟩; have hw6 : Below w.heap.size w w6 := hw5.trans (hb6.mono hw5.size); have cb := ref_Begins A6 (some ad) n6 n k6 c _ l false w6 ho6.reads (h.below hw6) (by rw [← ho6.len, List.length_map]; exact HLB.out) hc (by unfold Hid; rw [← stF_rfF]; exact HBG.out)) | (go_at_call 72; refine cb.mono ?_; rintro e w7 ⟨rfl, m7, rfl⟩))
        go_ret2
        rw [HRN.out]
        exact ⟨none, 0, 0, rfl, below_drewN hw6 _⟩
      · have HBG := Lib.hid hbg
        have HRY := Lib.hid (HR.out.2 hbg)
        clear hbg
        go_wp2_with (first | (go_at_call 54; refine cs1.mono ?_; clear cs1; rintro e w1 ⟨A2, n2, k2, rfl, ho2, hb2⟩; obtain rfl : n2 = m := (by rw [← ho2.len, HL1.out]); have hown1 := hown.below hb2 (Nat.le_refl _); have hB1 : w.heap.size ≤ w1.heap.size := Nat.le_trans hB hb2.size; have hoE : Own (w1.alloc (.cells #[] 4)) w1.heap.size 4 (.slice (some ⟨w1.heap.size, 0, none⟩) 0 0) [] := Own.built w1 #[] 0 rfl (by unfold maxLen; omega) (Nat.le_refl _); have hrE : Reads (w1.alloc (.cells #[] 4)) w1.heap.size A1 q (vb xs) := hown1.reads.alloc (Nat.le_refl _) _; have hbE : Below w1.heap.size w1 (w1.alloc (.cells #[] 4)) := (Below.refl _ _).alloc (Nat.le_refl _) _; have hw1 : Below w.heap.size w w1 := hb.trans (hb2.mono hB)) | (at_builtin; refine appN el_bool rfl _ _ rfl rfl hoE rfl hrE (vb_oneS xs) (by simp; unfold maxLen; omega) (by simp; omega) hbE.size ?_; clear hoE; intro v3 w3 ho3 hb3 _ _; rw [List.nil_append] at ho3; have hb13 := hbE.trans hb3; have hown3 := hown1.below hb13 (Nat.le_refl _); have cs2 := cs w3 A1 q c1 xs hown3.reads (by omega); have hw3 : Below w.heap.size w w3 := hw1.trans (hb13.mono hB1)) | (go_at_call 54; refine cs2.mono ?_; clear cs2; rintro e w4 ⟨A4, n4, k4, rfl, ho4, hb4⟩; obtain rfl : n4 = n2 := (by rw [← ho4.len, HL1.out]); have hw4 : Below w.heap.size w w4 := hw3.trans (hb4.mono hw3.size); have hcx : w4.cell? (ad.add n4) = some (.bool b) := (hw4.cell (by rw [block_of_add]; exact hbb)).trans hcx0; have ho3' := ho3.below hb4 (Nat.le_refl _); have hB4 : w1.heap.size ≤ w4.heap.size := Nat.le_trans hb13.size hb4.size) | (at_builtin; refine app1 el_bool rfl _ _ rfl rfl ho3' _ _ rfl rfl (by rw [HQ.out]; unfold maxLen; omega) (by rw [HQ.out]; omega) hB4 ?_; intro v5 w5 ho5 hb5 _ _; obtain ⟨A5, c5, e5⟩ := ho5.form; rw [List.length_append, HQ.out] at e5; subst e5; have ho5' : Own w5 w1.heap.size 4 (.slice A5 (q + [Value.bool b].length) c5) (vb (xs ++ [b])) := (by simpa [vb] using ho5); have cs5 := cs w5 A5 _ c5 (xs ++ [b]) ho5'.reads (by simp; omega); have hw5 : Below w.heap.size w w5 := hw4.trans (hb5.mono hB1)) | (go_at_call 54; refine cs5.mono ?_; rintro e w6 ⟨A6, n6, k6, rfl, ho6, hb6⟩; have hw6 : Below w.heap.size w w6 := hw5.trans (hb6.mono hw5.size); have cb := ref_Begins A6 (some ad) n6 n k6 c _ l true w6 ho6.reads (h.below hw6) (by rw [← ho6.len, List.length_map]; exact HLB.out) hc (by unfold Hid; rw [← stF_rfF]; exact HBG.out)) | (go_at_call 72; refine cb.mono ?_; rintro e w7 ⟨rfl, m7, rfl⟩))
        go_roundw
        case rel => exact ⟨xs ++ [b], ((ho5'.below hb6 (Nat.le_refl _)).drewN _).low hB1, below_drewN hw6 _, HRY.out.2.1, HRY.out.1, HRY.out.2.2⟩
        case measure => simp only [slen_slice]; simp; omega
    · obtain rfl : m = n := by omega
      have HRS : Hid (res = some xs) := by
        unfold Hid; rw [← hres.out, HM.out, List.drop_of_length_le (Nat.le_of_eq H.out), bareR_end, if_pos (by have := stF_r xs; omega)]; simp
      go_wp2_with (go_at_call 54; refine cs1.mono ?_; rintro e w1 ⟨A2, n2, k2, rfl, ho2, hb2⟩; obtain rfl : n2 = m := (by rw [← ho2.len, HL1.out]))
      go_ret2
      rw [HRS.out]
      exact ⟨A1, q, c1, rfl, hown.below hb2 (Nat.le_refl _), hb.trans (hb2.mono hB)⟩
/-! ### the law -/
def BareQ (w : World) (e : Ending) (w' : World) : Option (List Bool) → Prop
  | some xs => ∃ A n c, e = .returned (.tuple #[.slice A n c, .int .i64 0]) ∧ Own w' w.heap.size 4 (.slice A n c) (vb xs) ∧ Below w.heap.size w w'
  | none => e = .returned (.tuple #[.slice none 0 0, .int .i64 3]) ∧ Below w.heap.size w w'
theorem bareR_len (l : List Bool) (r : Nat) (xs : List Bool) (h : bareR r l = some xs) : xs.length ≤ l.length := by
  induction l generalizing r xs with
  | nil =>
    rw [bareR_end] at h
    split at h
    · injection h with h; subst h; exact Nat.le_refl _
    · cases h
  | cons b l ih =>
    by_cases h5 : r = 5
    · subst h5
      rw [bareR_five] at h
      cases b
      · have := ih 0 xs (by simpa using h); simp only [List.length_cons]; omega
      · simp at h
    · rw [bareR_next h5] at h
      obtain ⟨ys, hy, rfl⟩ := Option.map_eq_some_iff.1 h
      have := ih _ ys hy
      simp only [List.length_cons]; omega

end Go.Proofs.Ytmepiiheidmbgaa

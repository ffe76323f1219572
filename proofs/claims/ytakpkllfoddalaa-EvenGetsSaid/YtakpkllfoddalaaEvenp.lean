import Derived.Test.YtakpkllfoddalaaEven
import Derived.Test.YtakpkllfoddalaaDigits
import Derived.Test.YtakpkllfoddalaaEqBools
import Derived.Test.YtakpkllfoddalaaBall
set_option linter.unusedVariables false
namespace Go.Proofs.Ytakpkllfoddalaa
open Go.RowKit

/-- each bit and its contrary -/
def enc : List Bool → List Bool
  | [] => []
  | b :: l => b :: (!b) :: enc l
theorem enc_append (a b : List Bool) : enc (a ++ b) = enc a ++ enc b := by
  induction a with
  | nil => rfl
  | cons x a ih => simp only [List.cons_append, enc, ih]
theorem enc_next {l : List Bool} {k : Nat} {x : Bool} (h : l[k]? = some x) : enc (l.take (k + 1)) = enc (l.take k) ++ [x, !x] := by
  rw [take_next h, enc_append]; rfl
theorem enc_len (l : List Bool) : (enc l).length = 2 * l.length := by
  induction l with
  | nil => rfl
  | cons x a ih => simp only [enc, List.length_cons, ih]; omega
/-- how many to turn -/
def evK (l : List Bool) : Nat := ((List.range (l.length + 1)).find? fun k => balL (turnL l k) == 0).getD 0
theorem evK_ok (l : List Bool) (he : l.length % 2 = 0) : evK l ≤ l.length ∧ balL (turnL l (evK l)) = 0 ∧ ∀ j, j < evK l → balL (turnL l j) ≠ 0 := by
  obtain ⟨K, h1, h2, h3⟩ := bal_exists l he
  have : (List.range (l.length + 1)).find? (fun k => balL (turnL l k) == 0) = some K := by
    rw [List.find?_range_eq_some]
    exact ⟨by simpa using h2, by simp; omega, fun j hj => by simpa using h3 j hj⟩
  have e : evK l = K := by unfold evK; rw [this]; rfl
  rw [e]; exact ⟨h1, h2, h3⟩
def putL (l : List Bool) : List Bool := turnL l (evK l) ++ enc (digitsL (evK l) 4)
theorem putL_len (l : List Bool) : (putL l).length = l.length + 8 := by
  unfold putL; rw [List.length_append, turnL_len, enc_len, digitsL_len]

set_option maxHeartbeats 1600000 in
theorem even_Put (A : Option Addr) (n c : Nat) (l : List Bool) (w : World) (h : Reads w w.heap.size A n (vb l)) (hn : Hid (evenErr n = 0)) :
    Calls Try.prog 38 #[.slice A n c] w (fun e w' => ∃ A n c, e = .returned (.tuple #[.slice A n c, .int .i64 0]) ∧ Own w' w.heap.size 4 (.slice A n c) (vb (putL l)) ∧ Below w.heap.size w w') := by
  obtain ⟨hn12, hn2⟩ := evenErr_ok hn.out
  have H := Lib.hid h.bool_len
  obtain ⟨hK, hz, hmin⟩ := evK_ok l (by rw [H.out]; exact hn2)
  have c1 := even_Turn A n c l (evK l) w h hn (by rw [← H.out]; exact hK) hz hmin
  have HP : Hid (putL l = turnL l (evK l) ++ enc (digitsL (evK l) 4)) := rfl
  have hl0 : (turnL l (evK l)).length = n := by rw [turnL_len, H.out]
  have HL0 := Lib.hid hl0
  have hK12 : evK l ≤ 12 := by have := H.out; omega
  clear hz hmin hK hl0
  generalize evK l = K at *
  generalize turnL l K = t at *
  have c2 := fun w => kraft_Digits K 4 w (by omega) (by omega)
  go_enter Try.func38, Try.ntmps38
  go_wp2_with (first | (go_at_call 28; refine c1.mono ?_; rintro e w1 ⟨A1, n1, k1, rfl, ho1, hb1⟩) | (go_at_call 65; refine (c2 _).mono ?_; rintro e w2 ⟨A2, n2, k2, rfl, ho2, hb2⟩))
  have hn4 : n2 = 4 := by rw [← ho2.len, List.length_map, digitsL_len]
  have ho1' := ho1.below hb2 (Nat.le_refl _)
  have hne0 : (Value.slice A1 n1 k1).ownBlock ≠ (Value.slice A2 n2 k2).ownBlock := by
    obtain ⟨ad, e⟩ := ho2.reads.addr (by omega)
    subst e
    obtain ⟨g, rfl, hg1, _⟩ := ho2.addr
    intro hcon
    have := ho1.lt g (by rw [hcon]; rfl)
    omega
  have hD : (digitsL K 4).length = n2 := by rw [digitsL_len, hn4]
  have hn5 : n2 ≤ 4 := by omega
  have HDL := Lib.hid hD
  have hle2 : w.heap.size ≤ w1.heap.size := hb1.size
  clear hD hn4
  generalize digitsL K 4 = D at *
  go_loopw [4, 21] (fun v i wr => ∃ k : Nat, k ≤ n2 ∧ i = .int .i64 k ∧ Own wr w.heap.size 4 v (vb (t ++ enc (D.take k))) ∧ Own wr w1.heap.size 4 (.slice A2 n2 k2) (vb D) ∧ v.ownBlock ≠ (Value.slice A2 n2 k2).ownBlock ∧ Below w.heap.size w wr) (fun _ i _ => n2 - (intOf i).toNat)
  case atStart => exact ⟨0, by omega, rfl, by simpa [enc] using ho1', ho2, hne0, hb1.trans (hb2.mono hle2)⟩
  case round =>
    obtain ⟨k, hk, rfl, hown, hd, hne, hb⟩ := hrel
    have hB := hb.size
    by_cases hlt : k < n2
    · obtain ⟨ad, x, e, hbb, hx, hcx⟩ := hd.reads.bool_at hlt
      subst e
      have HE := Lib.hid (enc_next hx)
      have hl : (vb (t ++ enc (D.take k))).length ≤ 20 := by
        rw [List.length_map, List.length_append, HL0.out, enc_len, List.length_take]; omega
      clear hx
      have hown2 := hown.alloc (.cells #[.bool x, .bool (!x)] 4)
      have hd2 := hd.alloc (.cells #[.bool x, .bool (!x)] 4)
      have hB2 : w.heap.size ≤ (wr.alloc (.cells #[.bool x, .bool (!x)] 4)).heap.size := by simp; omega
      have hr2 := reads_new wr #[.bool x, .bool (!x)] 4 2 rfl
      have hbn : Below w.heap.size w (wr.alloc (.cells #[.bool x, .bool (!x)] 4)) := hb.alloc hB _
      go_wp2_with (at_builtin; refine appN el_clone_bools rfl _ _ rfl rfl hown2 rfl hr2 (by intro u hu; simp at hu; rcases hu with rfl | rfl <;> rfl) (by unfold maxLen; omega) (by omega) hB2 ?_; intro v1 w3 ho3 hb3 hg3 hat3)
      go_roundw
      case rel =>
        have hd3 := hd2.kept hg3 (.inr (fun e => hne e.symm))
        refine ⟨k + 1, by omega, by go_num, ?_, hd3, ?_, hbn.trans hb3⟩
        · rw [HE.out]; simpa [vb] using ho3
        · rcases hat3 with e | e
          · rw [e]; exact hne
          · rw [e]; intro hcon
            have := hd2.lt _ hcon.symm
            omega
      case measure => simp only [intOf]; omega
    · obtain rfl : k = n2 := by omega
      obtain ⟨A3, k3, e⟩ := hown.form
      generalize hn3 : (vb (t ++ enc (D.take k))).length = n3 at e
      subst e
      clear hn3
      go_wp2
      go_ret2
      refine ⟨A3, n3, k3, rfl, ?_, hb⟩
      rw [HP.out]
      rw [List.take_of_length_le (Nat.le_of_eq HDL.out)] at hown
      exact hown

set_option maxHeartbeats 400000 in
theorem even_Put_err (A : Option Addr) (n c : Nat) (z : Int) (w : World) (hm : n ≤ maxLen) (hn : Hid (evenErr n = z)) (h0 : z ≠ 0) :
    Calls Try.prog 38 #[.slice A n c] w (fun e w' => e = .returned (.tuple #[.slice none 0 0, .int .i64 z]) ∧ Below w.heap.size w w') := by
  have c1 := even_Turn_err A n c z w hm hn h0
  have hz : (z != 0) = true := by simpa using h0
  clear h0
  go_enter Try.func38, Try.ntmps38
  go_wp2_with (go_at_call 28; refine c1.mono ?_; rintro e w1 ⟨rfl, hb1⟩)
  go_ret2
  exact ⟨rfl, hb1⟩

set_option maxHeartbeats 1600000 in
theorem ref_EvenPut (A : Option Addr) (n c : Nat) (l : List Bool) (w : World) (h : Reads w w.heap.size A n (vb l)) (hn : Hid (evenErr n = 0)) :
    Calls Try.prog 39 #[.slice A n c] w (RetS w 4 (vb (putL l))) := by
  obtain ⟨hn12, hn2⟩ := evenErr_ok hn.out
  have H := Lib.hid h.bool_len
  obtain ⟨hK, hz, hmin⟩ := evK_ok l (by rw [H.out]; exact hn2)
  have c1 := ref_Evened A n c l (evK l) w h (by omega) (by rw [← H.out]; exact hK) hz hmin
  have HP : Hid (putL l = turnL l (evK l) ++ enc (digitsL (evK l) 4)) := rfl
  have hl0 : (turnL l (evK l)).length = n := by rw [turnL_len, H.out]
  have HL0 := Lib.hid hl0
  have hK12 : evK l ≤ 12 := by have := H.out; omega
  clear hz hmin hK hl0
  generalize evK l = K at *
  generalize turnL l K = t at *
  have c2 := fun w => ref_Digits K 4 w (by omega) (by omega)
  go_enter Try.func39, Try.ntmps39
  go_wp2_with (first | (go_at_call 30; refine c1.mono ?_; rintro e w1 ⟨A1, n1, k1, rfl, ho1, hb1⟩) | (go_at_call 66; refine (c2 _).mono ?_; rintro e w2 ⟨A2, n2, k2, rfl, ho2, hb2⟩))
  have hn4 : n2 = 4 := by rw [← ho2.len, List.length_map, digitsL_len]
  have ho1' := ho1.below hb2 (Nat.le_refl _)
  have hne0 : (Value.slice A1 n1 k1).ownBlock ≠ (Value.slice A2 n2 k2).ownBlock := by
    obtain ⟨ad, e⟩ := ho2.reads.addr (by omega)
    subst e
    obtain ⟨g, rfl, hg1, _⟩ := ho2.addr
    intro hcon
    have := ho1.lt g (by rw [hcon]; rfl)
    omega
  have hD : (digitsL K 4).length = n2 := by rw [digitsL_len, hn4]
  have hn5 : n2 ≤ 4 := by omega
  have HDL := Lib.hid hD
  have hle2 : w.heap.size ≤ w1.heap.size := hb1.size
  clear hD hn4
  generalize digitsL K 4 = D at *
  go_loopw [3, 15] (fun v i wr => ∃ k : Nat, k ≤ n2 ∧ i = .int .i64 k ∧ Own wr w.heap.size 4 v (vb (t ++ enc (D.take k))) ∧ Own wr w1.heap.size 4 (.slice A2 n2 k2) (vb D) ∧ v.ownBlock ≠ (Value.slice A2 n2 k2).ownBlock ∧ Below w.heap.size w wr) (fun _ i _ => n2 - (intOf i).toNat)
  case atStart => exact ⟨0, by omega, rfl, by simpa [enc] using ho1', ho2, hne0, hb1.trans (hb2.mono hle2)⟩
  case round =>
    obtain ⟨k, hk, rfl, hown, hd, hne, hb⟩ := hrel
    have hB := hb.size
    by_cases hlt : k < n2
    · obtain ⟨ad, x, e, hbb, hx, hcx⟩ := hd.reads.bool_at hlt
      subst e
      have HE := Lib.hid (enc_next hx)
      have hl : (vb (t ++ enc (D.take k))).length ≤ 20 := by
        rw [List.length_map, List.length_append, HL0.out, enc_len, List.length_take]; omega
      clear hx
      have hown2 := hown.alloc (.cells #[.bool x, .bool (!x)] 4)
      have hd2 := hd.alloc (.cells #[.bool x, .bool (!x)] 4)
      have hB2 : w.heap.size ≤ (wr.alloc (.cells #[.bool x, .bool (!x)] 4)).heap.size := by simp; omega
      have hr2 := reads_new wr #[.bool x, .bool (!x)] 4 2 rfl
      have hbn : Below w.heap.size w (wr.alloc (.cells #[.bool x, .bool (!x)] 4)) := hb.alloc hB _
      go_wp2_with (at_builtin; refine appN el_clone_bools rfl _ _ rfl rfl hown2 rfl hr2 (by intro u hu; simp at hu; rcases hu with rfl | rfl <;> rfl) (by unfold maxLen; omega) (by omega) hB2 ?_; intro v1 w3 ho3 hb3 hg3 hat3)
      go_roundw
      case rel =>
        have hd3 := hd2.kept hg3 (.inr (fun e => hne e.symm))
        refine ⟨k + 1, by omega, by go_num, ?_, hd3, ?_, hbn.trans hb3⟩
        · rw [HE.out]; simpa [vb] using ho3
        · rcases hat3 with e | e
          · rw [e]; exact hne
          · rw [e]; intro hcon
            have := hd2.lt _ hcon.symm
            omega
      case measure => simp only [intOf]; omega
    · obtain rfl : k = n2 := by omega
      obtain ⟨A3, k3, e⟩ := hown.form
      generalize hn3 : (vb (t ++ enc (D.take k))).length = n3 at e
      subst e
      clear hn3
      go_wp2
      go_ret
      refine ⟨A3, n3, k3, rfl, ?_, hb⟩
      rw [HP.out]
      rw [List.take_of_length_le (Nat.le_of_eq HDL.out)] at hown
      exact hown

set_option maxHeartbeats 800000 in
theorem EvenPuts_walk (A : Option Addr) (n c : Nat) (l : List Bool) (w : World) (h : Reads w w.heap.size A n (vb l)) (hs : n * 1 ≤ reachBytes) :
    Calls Try.prog 11 #[.slice A n c] w (LawTrue w) := by
  have hm : n ≤ maxLen := by unfold reachBytes at hs; unfold maxLen; omega
  by_cases h0 : evenErr n = 0
  · have c1 := even_Put A n c l w h h0
    have c2 := fun w => law_evenCheck A n c 0 w hm h0
    have c3 := fun (w1 : World) (hb1 : Below w.heap.size w w1) => ref_EvenPut A n c l w1 ((h.below hb1).more hb1.size) h0
    obtain ⟨hn12, _⟩ := evenErr_ok h0
    have hpl := putL_len l
    rw [h.bool_len] at hpl
    have HPL := Lib.hid hpl
    clear h0 hpl
    go_enter Try.func11, Try.ntmps11
    go_wp2_with (first | (go_at_call 38; refine c1.mono ?_; rintro e w1 ⟨A1, n1, k1, rfl, ho1, hb1⟩) | (go_at_call 29; refine (c2 _).mono ?_; rintro e w' ⟨rfl, rfl⟩) | (go_at_call 39; refine (c3 _ hb1).mono ?_; rintro e w2 ⟨A2, n2, k2, rfl, ho2, hb2⟩; have c4 := ref_Bools A1 A2 n1 n2 k1 k2 _ _ true w2 (ho1.reads.below hb2) ho2.reads (by rw [← ho1.len, List.length_map, HPL.out]; unfold maxLen; omega) (by simp [Hid])) | (go_at_call 22; refine c4.mono ?_; rintro e w3 ⟨rfl, m3, rfl⟩))
    go_ret
    exact ⟨rfl, below_drewN (hb1.trans (hb2.mono hb1.size)) _⟩
  · have c1 := even_Put_err A n c (evenErr n) w hm rfl h0
    have c2 := fun w => law_evenCheck A n c (evenErr n) w hm rfl
    have hz : (evenErr n != 0) = true := by simpa using h0
    clear h0
    generalize evenErr n = z at *
    go_enter Try.func11, Try.ntmps11
    go_wp2_with (first | (go_at_call 38; refine c1.mono ?_; rintro e w1 ⟨rfl, hb1⟩) | (go_at_call 29; refine (c2 _).mono ?_; rintro e w' ⟨rfl, rfl⟩))
    go_ret
    exact ⟨rfl, hb1⟩
end Go.Proofs.Ytakpkllfoddalaa

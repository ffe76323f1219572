/-
  turn.Back walked.
-/
import Derived.Test.YtdidahafbcddeaaTux
set_option linter.unusedVariables false
namespace Go.Proofs.Ytdidahafbcddeaa
open Go.RowKit Go.Shelf Go.Sort

/-- what turn.Back answers, the place lying within the bytes -/
def BackP (w : World) (last : List Nat) (a : Nat) (e : Ending) (w' : World) : Prop :=
  ∃ p : List Nat, p.length = last.length ∧ Byt p ∧ (∀ T, Byt T → TurnR T last a → p = T) ∧ Below w.heap.size w w' ∧
    ((TurnR p last a ∧ ∃ A' n' c', e = .returned (.tuple #[.slice A' n' c', .int .i64 0]) ∧ Reads w' w'.heap.size A' n' (vn .u8 p)) ∨ (¬ TurnR p last a ∧ e = .returned (.tuple #[.slice none 0 0, .int .i64 5])))
def lenOfS : Value → Nat
  | .slice _ n _ => n
  | _ => 0
theorem turnR_ex (T : List Nat) : ∃ o p, TurnR T o p := by
  obtain ⟨r, hr⟩ := ord_ex T
  exact ⟨_, _, r, hr, rfl, rfl⟩
theorem nxt_of {M : Nat} {last : List Nat} (hM : last.length = M + 1) {r : List (Fin (M + 1))} (h : r.Perm (List.finRange (M + 1))) (ho : r.Pairwise fun x y => keyI (fun i : Fin (M + 1) => last.getD i.val 0) x < keyI (fun i : Fin (M + 1) => last.getD i.val 0) y) : Nxt last (r.map Fin.val) := by
  refine ⟨by rw [hM]; exact vals_perm h, ?_⟩
  rw [List.pairwise_map]
  exact ho.imp fun {a b} hab => (keyI_lt a b).1 hab
theorem backL_next (last nx : List Nat) (a s : Nat) : backL last nx a (s + 1) = backL last nx a s ++ [last.getD (itN nx a (s + 1)) 0] := by unfold backL; rw [List.range_succ, List.map_append]; rfl
theorem backL_len (last nx : List Nat) (a s : Nat) : (backL last nx a s).length = s := by unfold backL; simp
theorem getD_byt {l : List Nat} (h : Byt l) (k : Nat) : l.getD k 0 < 256 := by
  rw [List.getD_eq_getElem?_getD]
  by_cases hk : k < l.length
  · rw [List.getElem?_eq_getElem hk]; exact h _ (List.getElem_mem hk)
  · rw [List.getElem?_eq_none (by omega)]; simp
theorem backL_byt {last nx : List Nat} (h : Byt last) (a s : Nat) : Byt (backL last nx a s) := fun x hx => by
  unfold backL at hx
  obtain ⟨k, _, rfl⟩ := List.mem_map.1 hx
  exact getD_byt h _
theorem turn_Turn_far (A : Option Addr) (n c : Nat) (w : World) (hn : 64 < n) : Calls Try.prog 18 #[.slice A n c] w (Ret w (.tuple #[.slice none 0 0, .int .i64 0, .int .i64 1])) := by
  have hz : (64 : Int) < (n : Int) := by omega
  go_enter Try.func18, Try.ntmps18
  go_wp2
  go_ret3
  exact ⟨rfl, rfl⟩
theorem back_far (A : Option Addr) (n c : Nat) (z : Int) (w : World) (hn : 64 < n) : Calls Try.prog 21 #[.slice A n c, .int .i64 z] w fun e w' => e = .returned (.tuple #[.slice none 0 0, .int .i64 1]) ∧ Below w.heap.size w w' := by
  have hz : (64 : Int) < (n : Int) := by omega
  have hb : Below w.heap.size w (w.alloc (.cells #[.slice A n c] 42)) := (Below.refl _ w).alloc (Nat.le_refl _) _
  go_enter Try.func21, Try.ntmps21
  go_wp2
  go_ret2
  exact ⟨rfl, hb⟩
theorem back_nil (A : Option Addr) (c : Nat) (z : Int) (w : World) : Calls Try.prog 21 #[.slice A 0 c, .int .i64 z] w fun e w' => e = .returned (.tuple #[.slice none 0 0, .int .i64 (if z = 0 then 0 else 5)]) ∧ Below w.heap.size w w' := by
  have hb : Below w.heap.size w (w.alloc (.cells #[.slice A 0 c] 42)) := (Below.refl _ w).alloc (Nat.le_refl _) _
  by_cases h : z = 0
  · subst h
    go_enter Try.func21, Try.ntmps21
    go_wp2
    go_ret2
    exact ⟨rfl, hb⟩
  · have h2 : (z != 0) = true := by simpa using h
    rw [if_neg h]
    go_enter Try.func21, Try.ntmps21
    go_wp2
    go_ret2
    exact ⟨rfl, hb⟩
theorem back_out (A : Option Addr) (n c : Nat) (z : Int) (w : World) (hn : n ≤ 64) (h0 : 0 < n) (hz : z < 0 ∨ (n : Int) ≤ z) : Calls Try.prog 21 #[.slice A n c, .int .i64 z] w fun e w' => e = .returned (.tuple #[.slice none 0 0, .int .i64 5]) ∧ Below w.heap.size w w' := by
  have hb : Below w.heap.size w (w.alloc (.cells #[.slice A n c] 42)) := (Below.refl _ w).alloc (Nat.le_refl _) _
  have h1 : ¬ (64 : Int) < (n : Int) := by omega
  have h2 : ((n : Int) == 0) = false := by rw [beq_eq_false_iff_ne]; omega
  have h3 : ¬ (n : Int) = 0 := by omega
  rcases Int.lt_or_le z 0 with hz0 | hz0
  · clear hz
    go_enter Try.func21, Try.ntmps21
    go_wp2
    go_ret2
    exact ⟨rfl, hb⟩
  · have h4 : (n : Int) ≤ z := by omega
    have h5 : ¬ z < 0 := by omega
    clear hz
    go_enter Try.func21, Try.ntmps21
    go_wp2
    go_ret2
    exact ⟨rfl, hb⟩
set_option maxRecDepth 100000 in
set_option maxHeartbeats 1600000 in
theorem turn_Back (A : Option Addr) (n c M a : Nat) (last : List Nat) (w : World) (h : Reads w w.heap.size A n (vn .u8 last)) (hB : Byt last) (hn : n ≤ 64) (hM : Hid (n = M + 1)) (ha : a < n) :
    Calls Try.prog 21 #[.slice A n c, .int .i64 (a : Int)] w (BackP w last a) := by
  have hTl := h.nat_len
  have HT := Lib.hid hTl
  have HB := Lib.hid hB
  have hn1 : 1 ≤ n := by have := hM.out; omega
  have j0 : ¬ (64 : Int) < (n : Int) := by omega
  have j1 : ((n : Int) == 0) = false := by rw [beq_eq_false_iff_ne]; omega
  have j2 : ¬ (n : Int) = 0 := by omega
  have j3 : ¬ (a : Int) < 0 := by omega
  have j4 : ¬ (n : Int) ≤ (a : Int) := by omega
  obtain ⟨ad, rfl, hadb, -⟩ := h.cells (by omega)
  have hw1 : Below w.heap.size w (w.alloc (.cells #[.slice (some ad) n c] 42)) := (Below.refl _ w).alloc (Nat.le_refl _) _
  have k2 : (w.alloc (.cells #[.slice (some ad) n c] 42)).cell? ⟨w.heap.size, 0, none⟩ = some (.slice (some ad) n c) := cell_one_new w _ _ 0 _ rfl
  have rd : Reads (w.alloc (.cells #[.slice (some ad) n c] 42)) w.heap.size (some ad) n (vn .u8 last) := h.alloc (Nat.le_refl _) _
  have hs1 : w.heap.size < (w.alloc (.cells #[.slice (some ad) n c] 42)).heap.size := by simp
  clear hTl hB h
  go_enter Try.func21, Try.ntmps21
  go_wp2
  obtain ⟨b2, hb2⟩ : ∃ b, w.heap.size = b := ⟨_, rfl⟩
  have H2 := Lib.hid hb2
  have HW1 := Lib.hid hw1
  rw [hb2] at k2 rd hs1 ⊢
  generalize w.alloc (.cells #[.slice (some ad) n c] 42) = w4 at *
  clear hb2 hw1
  go_loopw [30, 7] (fun iv ov wr => ∃ k : Nat, k ≤ n ∧ iv = .int .i64 (k : Int) ∧ Own wr w4.heap.size 3 ov (vn .i64 (List.range k)) ∧ Below w4.heap.size w4 wr) (fun iv _ _ => n - (intOf iv).toNat)
  case atStart => exact ⟨0, Nat.zero_le _, rfl, Own.nil _ _ _, Below.refl _ _⟩
  case round =>
    obtain ⟨k, hk, rfl, hown, hbel⟩ := hrel
    by_cases hlt : k < n
    · have i1 : (k : Int) < (n : Int) := by omega
      have hvl : Hid ((vn .i64 (List.range k)).length = k) := by unfold Hid; rw [List.length_map, List.length_range]
      have hsn : Hid (vn .i64 (List.range k) ++ [Value.int .i64 (k : Int)] = vn .i64 (List.range (k + 1))) := by unfold Hid; rw [vn_snoc, List.range_succ]
      go_wp2_with (at_builtin; refine app1 el_intT rfl _ _ rfl rfl hown _ _ rfl rfl (by rw [hvl.out]; unfold maxLen; omega) (by rw [hvl.out]; omega) hbel.size ?_; intro v2 w2 ho2 hb2 _ _)
      rw [hsn.out] at ho2
      go_roundw
      case rel => exact ⟨k + 1, by omega, by go_num, ho2, hbel.trans hb2⟩
      case measure => simp [intOf] <;> omega
    · obtain rfl : k = n := by omega
      have i1 : ¬ (k : Int) < (k : Int) := by omega
      obtain ⟨wo, rfl⟩ : ∃ x, x = wr := ⟨_, rfl⟩
      have hkM := hM.out
      rw [hkM, ← vals_range M] at hown
      obtain ⟨A1, c1, e1⟩ := hown.form
      rw [List.length_map, List.length_finRange, ← hkM] at e1
      subst e1
      obtain ⟨ad1, rfl, -⟩ := hown.reads.cells (by omega)
      obtain ⟨g1, rfl, hg1, hg2⟩ := hown.addr
      have hsort := own_order (key := fun i : Fin (M + 1) => last.getD i.val 0) ⟨g1, 0, none⟩ c1 43 #[.pointer (some ⟨b2, 0, none⟩)] (fun x y => cmpN (last.getD x.val 0) (last.getD y.val 0)) wo hown hM hn (enters_of Try.func43 (by kernel_rfl) rfl) (fun W hW x y => by
        have hx : x.val < k := by have := x.isLt; omega
        have hy : y.val < k := by have := y.isLt; omega
        have hbW : Below w4.heap.size w4 W := hbel.trans (grown_below hW hbel.size (fun q e => by cases e; exact hg1))
        have hrW := rd.below (hbW.mono (by omega))
        have hcl : ∀ q, q < k → W.cell? (ad.add q) = some (.int .u8 ((last.getD q 0 : Nat) : Int)) := fun q hq => by
          obtain ⟨a', e, _, hc⟩ := hrW.cells (by omega)
          injection e with e; subst e
          have hq2 : q < last.length := by rw [HT.out]; exact hq
          refine hc q _ ?_
          rw [List.getElem?_map, List.getD_eq_getElem?_getD, List.getElem?_eq_getElem hq2]; rfl
        exact back_less b2 k c x.val y.val _ _ ad W ((hbW.cell (p := ⟨b2, 0, none⟩) (by show b2 < _; omega)).trans k2) (hcl _ hx) (hcl _ hy) hx hy hn)
        (fun x y => cmpN_lt _ _)
      have k2o := (hbel.cell (p := ⟨b2, 0, none⟩) (by show b2 < _; omega)).trans k2
      have HK2 := Lib.hid k2
      have HRD := Lib.hid rd
      have HBEL := Lib.hid hbel
      clear hown k2 rd hbel hkM
      go_wp2_with (go_at_call 38; refine hsort.mono ?_; clear hsort; rintro e w5 ⟨rfl, hg5, r, hperm, hpw, ho5⟩)
      have hb5 : Below w4.heap.size w4 w5 := HBEL.out.trans (grown_below hg5 HBEL.out.size (fun q e => by cases e; exact hg1))
      have hord : Nxt last (r.map Fin.val) := nxt_of (by rw [HT.out]; exact hM.out) hperm hpw
      have hvn : r.map (encF M) = vn .i64 (r.map Fin.val) := by
        show _ = List.map _ (List.map _ r)
        rw [List.map_map]; rfl
      rw [hvn] at ho5
      clear hvn hperm hpw hg5
      generalize r.map Fin.val = nx at *
      have hrl : Hid (nx.length = k) := by unfold Hid; have := hord.perm.length_eq; rw [List.length_range, HT.out] at this; exact this
      have HO := Lib.hid hord
      have HO5 := Lib.hid ho5
      have HB5 := Lib.hid hb5
      clear hord ho5 hb5 k2o
      go_loopw [10, 9] (fun iv ov wr => ∃ s : Nat, s ≤ k ∧ iv = .int .i64 ((itN nx a s : Nat) : Int) ∧ Own wr w5.heap.size 5 ov (vn .u8 (backL last nx a s)) ∧ Below w5.heap.size w5 wr) (fun _ ov _ => k - lenOfS ov)
      case atStart => exact ⟨0, Nat.zero_le _, rfl, Own.nil _ _ _, Below.refl _ _⟩
      case round =>
        obtain ⟨s, hs, rfl, hown, hbel⟩ := hrel
        obtain ⟨wp, rfl⟩ : ∃ x, x = wr := ⟨_, rfl⟩
        have hb45 : Below w4.heap.size w4 wp := HB5.out.trans (hbel.mono HB5.out.size)
        obtain ⟨A9, c9, e9⟩ := hown.form
        rw [List.length_map, backL_len] at e9
        subst e9
        by_cases hlt2 : s < k
        · have i2 : (s : Int) < (k : Int) := by omega
          have hik : itN nx a s < k := by have := itN_lt HO.out (a := a) (by rw [HT.out]; exact ha) s; rw [HT.out] at this; exact this
          have hik2 : itN nx a (s + 1) < k := by have := itN_lt HO.out (a := a) (by rw [HT.out]; exact ha) (s + 1); rw [HT.out] at this; exact this
          have hcr := (HO5.out.below hbel (Nat.le_refl _)).cell (j := itN nx a s) (u := .int .i64 ((itN nx a (s + 1) : Nat) : Int)) (by
            have hq : itN nx a s < nx.length := by rw [hrl.out]; exact hik
            rw [List.getElem?_map, List.getElem?_eq_getElem hq, itN, List.getD_eq_getElem?_getD, List.getElem?_eq_getElem hq]; rfl)
          rw [add_row] at hcr
          have q2 := (hb45.cell (p := ⟨b2, 0, none⟩) (by show b2 < _; omega)).trans HK2.out
          have hcy : wp.cell? (ad.add (itN nx a (s + 1))) = some (.int .u8 ((last.getD (itN nx a (s + 1)) 0 : Nat) : Int)) := by
            obtain ⟨a', e, _, hc⟩ := (HRD.out.below (hb45.mono (by omega))).cells (by omega)
            injection e with e; subst e
            have hq2 : itN nx a (s + 1) < last.length := by rw [HT.out]; exact hik2
            refine hc _ _ ?_
            rw [List.getElem?_map, List.getD_eq_getElem?_getD, List.getElem?_eq_getElem hq2]; rfl
          have hvl : Hid ((vn .u8 (backL last nx a s)).length = s) := by unfold Hid; rw [List.length_map, backL_len]
          have hsn : Hid (vn .u8 (backL last nx a s) ++ [Value.int .u8 ((last.getD (itN nx a (s + 1)) 0 : Nat) : Int)] = vn .u8 (backL last nx a (s + 1))) := by unfold Hid; rw [vn_snoc, backL_next]
          have hvl2 : Hid ((vn .u8 (backL last nx a (s + 1))).length = s + 1) := by unfold Hid; rw [List.length_map, backL_len]
          have HI2 : Hid (itN nx a (s + 1) = itN nx a (s + 1)) := rfl
          generalize hg1 : itN nx a (s + 1) = i' at *
          generalize itN nx a s = i at *
          generalize last.getD i' 0 = y at *
          have HG := Lib.hid hg1
          have ii1 : (i : Int) < (k : Int) := by omega
          have ii2 : (i' : Int) < (k : Int) := by omega
          clear hg1
          go_wp2_with (at_builtin; refine app1 el_concat_bytes rfl _ _ rfl rfl hown _ _ rfl rfl (by rw [hvl.out]; unfold maxLen; omega) (by rw [hvl.out]; omega) hbel.size ?_; intro v2 w2 ho2 hb2 _ _)
          rw [hsn.out] at ho2
          obtain ⟨A8, c8, e8⟩ := ho2.form
          rw [hvl2.out] at e8
          subst e8
          go_roundw
          case rel => exact ⟨s + 1, by omega, by rw [HG.out], ho2, hbel.trans hb2⟩
          case measure => simp [lenOfS] <;> omega
        · obtain rfl : s = k := by omega
          have i2 : ¬ (s : Int) < (s : Int) := by omega
          have hbyt := backL_byt HB.out (nx := nx) a s
          have hback : ∀ T, Byt T → TurnR T last a → backL last nx a s = T := fun T hT ht => by
            have := back_is hT ht HO.out (by rw [HT.out]; omega)
            rw [HT.out] at this
            exact this
          have hpl : (backL last nx a s).length = last.length := by rw [backL_len, HT.out]
          generalize backL last nx a s = P at *
          obtain ⟨o, p0, ht⟩ := turnR_ex P
          have ct : Calls Try.prog 18 #[.slice A9 s c9] wp (fun e w' => ∃ A' c', e = .returned (.tuple #[.slice (some A') s c', .int .i64 ((p0 : Nat) : Int), .int .i64 0]) ∧ Reads w' w'.heap.size (some A') s (vn .u8 o) ∧ Below wp.heap.size wp w') := by
            refine (turn_Turn A9 s c9 P wp hown.reads hbyt hn).mono ?_
            rintro e w6 ⟨A6, n6, c6, o6, a6, rfl, ht6, hr6, hb6⟩
            obtain ⟨e1, e2⟩ := ht.uniq ht6
            subst e1
            subst e2
            have hl := ht.len
            obtain rfl : s = n6 := by have := hr6.nat_len; have := hown.reads.nat_len; omega
            obtain ⟨A7, rfl, -⟩ := hr6.cells (by omega)
            exact ⟨A7, c6, rfl, hr6, hb6⟩
          have hob : Byt o := by
            obtain ⟨r', _, e, _⟩ := ht
            rw [e]
            intro x hx
            obtain ⟨q, _, rfl⟩ := List.mem_map.1 hx
            exact getD_byt (trn_byt hbyt q) _
          have HOB := Lib.hid hob
          have HTR := Lib.hid ht
          have HBY := Lib.hid hbyt
          have HBK := Lib.hid hback
          have HPL := Lib.hid hpl
          have HOW := Lib.hid hown.reads
          have hbf : Below w.heap.size w wp := HW1.out.trans (hb45.mono HW1.out.size)
          have HBF := Lib.hid hbf
          have HB45 := Lib.hid hb45
          have q2 := (hb45.cell (p := ⟨b2, 0, none⟩) (by show b2 < _; omega)).trans HK2.out
          clear hbyt hback hpl hown hbf hb45 ht hob
          by_cases hp : p0 = a
          · subst hp
            have z1 : ((p0 : Int) != (p0 : Int)) = false := by simp
            have ce := fun (w6 : World) (hb : Below wp.heap.size wp w6) (A' : Addr) (c' : Nat) (hr : Reads w6 w6.heap.size (some A') s (vn .u8 o)) (R : Bool) (hR : Hid (decide (o = last) = R)) =>
              bytes_EqualT A' ad s s c' c o last R w6 hr (HRD.out.below ((HB45.out.trans (hb.mono HB45.out.size)).mono (by omega))) HOB.out HB.out hR
            by_cases ho : o = last
            · have HO2 : Hid (TurnR P last p0) := by unfold Hid; rw [← ho]; exact HTR.out
              have hdec : Hid (decide (o = last) = true) := decide_eq_true ho
              have CE := Lib.hid (fun w6 hb A' c' hr => ce w6 hb A' c' hr true hdec)
              clear ce ho
              go_wp2_with (first
                | (go_at_call 18; refine ct.mono ?_; clear ct; rintro e w6 ⟨A6, c6, rfl, hr6, hb6⟩
                   have q6 := (hb6.cell (p := ⟨b2, 0, none⟩) (by show b2 < _; have := HB45.out.size; omega)).trans q2
                   have ce := CE.out w6 hb6 A6 c6 hr6)
                | (go_at_call 45; refine ce.mono ?_; clear ce; rintro e w7 ⟨rfl, rfl⟩))
              go_ret2
              exact ⟨P, HPL.out, HBY.out, HBK.out, HBF.out.trans (hb6.mono HBF.out.size), .inl ⟨HO2.out, A9, s, c9, rfl, (HOW.out.below hb6).more hb6.size⟩⟩
            · have HO2 : Hid (¬ TurnR P last p0) := fun hh => ho (HTR.out.uniq hh).1
              have hdec : Hid (decide (o = last) = false) := decide_eq_false ho
              have CE := Lib.hid (fun w6 hb A' c' hr => ce w6 hb A' c' hr false hdec)
              clear ce ho
              go_wp2_with (first
                | (go_at_call 18; refine ct.mono ?_; clear ct; rintro e w6 ⟨A6, c6, rfl, hr6, hb6⟩
                   have q6 := (hb6.cell (p := ⟨b2, 0, none⟩) (by show b2 < _; have := HB45.out.size; omega)).trans q2
                   have ce := CE.out w6 hb6 A6 c6 hr6)
                | (go_at_call 45; refine ce.mono ?_; clear ce; rintro e w7 ⟨rfl, rfl⟩))
              go_ret2
              exact ⟨P, HPL.out, HBY.out, HBK.out, HBF.out.trans (hb6.mono HBF.out.size), .inr ⟨HO2.out, rfl⟩⟩
          · have z1 : ((p0 : Int) != (a : Int)) = true := by simp; omega
            have HO2 : Hid (¬ TurnR P last a) := fun hh => hp (HTR.out.uniq hh).2
            clear hp
            go_wp2_with (go_at_call 18; refine ct.mono ?_; clear ct; rintro e w6 ⟨A6, c6, rfl, hr6, hb6⟩)
            go_ret2
            exact ⟨P, HPL.out, HBY.out, HBK.out, HBF.out.trans (hb6.mono HBF.out.size), .inr ⟨HO2.out, rfl⟩⟩
end Go.Proofs.Ytdidahafbcddeaa

/-
  double.Fill: where nothing is wrong.
-/
import Derived.Test.YthbmnaonnebnhaaDoubley
import Derived.Test.YthbmnaonnebnhaaDoublev
import Derived.StillTailTactics
set_option linter.unusedVariables false
namespace Go.Proofs.Ythbmnaonnebnhaa
open Go.RowKit

/-- the list that fits, or that none does -/
def FillP (w : World) (res : List Nat) (ok : Bool) (e : Ending) (w' : World) : Prop := match ok with
  | true => ∃ A n c, e = .returned (.tuple #[.slice A n c, .int .i64 0]) ∧ Reads w' w'.heap.size A n (vn .i64 res) ∧ Below w.heap.size w w'
  | false => e = .returned (.tuple #[.slice none 0 0, .int .i64 8]) ∧ Below w.heap.size w w'
set_option maxRecDepth 100000 in
set_option maxHeartbeats 3200000 in
theorem double_Fill_ok (A A' : Option Addr) (n n2 c c' P Q : Nat) (hasP hasQ ok : Bool) (l : List Int) (lost : List Bool) (D res : List Nat) (w : World) (h : Reads w w.heap.size A n (vi .i64 l)) (h' : Reads w w.heap.size A' n (vb lost)) (h3 : 3 ≤ n) (h14 : n ≤ 14) (hn2 : n2 + 2 ≤ n) (hn2' : n ≤ n2 + 2)
    (HOK : Hid (∀ j, j < n → badAt l lost j = false)) (hG : Hid ((goneL lost n).length ≤ 2)) (HD : Hid (vi .i64 (zeroL l lost n) = vn .i64 D ∧ D.length = n ∧ ∀ x ∈ D, x < 16))
    (hP : Hid (D[n2]? = some P)) (hQ : Hid (D[n2 + 1]? = some Q)) (hp0 : Hid (lost[n2]? = some (!hasP))) (hq0 : Hid (lost[n2 + 1]? = some (!hasQ)))
    (hres : Hid (res = setG D (goneL lost n2) (solG D (goneL lost n2) (dbA D n2 ^^^ P) (dbB D n2 ^^^ Q) hasP).1 (solG D (goneL lost n2) (dbA D n2 ^^^ P) (dbB D n2 ^^^ Q) hasP).2)) (hok : Hid (okG res n2 P Q hasP hasQ = ok)) :
    Calls Try.prog 31 #[.slice A n c, .slice A' n c'] w (FillP w (res.take n2) ok) := by
  obtain ⟨K, hKn⟩ : ∃ K, K = n := ⟨_, rfl⟩
  have HKN := Lib.hid hKn
  have hK : K ≤ n := by omega
  have hK2 : n ≤ K := by omega
  rw [← hKn] at HOK
  clear hKn
  have HL := Lib.hid h.int_len
  have HL' := Lib.hid h'.bool_len
  have c7' := clone_ints A n c (vi .i64 l) (w.alloc (.cells #[.int .i64 (n2 : Int)] 3)) ((h.alloc (Nat.le_refl _) _).more (by simp)) (fun u hu => by obtain ⟨z, _, rfl⟩ := List.mem_map.1 hu; rfl) (by omega)
  have i0 : (n : Int) - 2 = (n2 : Int) := by omega
  have i1 : (1 : Int) ≤ (n2 : Int) := by omega
  have i2 : (n2 : Int) ≤ 12 := by omega
  have i3 : ¬ (n2 : Int) < 1 := by omega
  have i4 : ¬ (12 : Int) < (n2 : Int) := by omega
  have i5 : ((n : Int) != (n : Int)) = false := by simp
  go_enter Try.func31, Try.ntmps31
  go_wp2_with (go_at_call 51; refine c7'.mono ?_; clear c7'; rintro e w7 ⟨A7, n7, c7, rfl, ho7, hb7⟩; rw [show (w.alloc (.cells #[.int .i64 (n2 : Int)] 3)).heap.size = w.heap.size + 1 from by simp] at ho7 hb7; obtain rfl : n = n7 := (by have := ho7.reads.int_len; rw [HL.out] at this; exact this); obtain ⟨ad7, rfl⟩ := ho7.reads.addr (by omega); obtain ⟨g, rfl, hg7, _⟩ := ho7.addr; have hcap7 := ho7.capLe')
  go_loopw [8, 34] (fun gv iv wr => ∃ k : Nat, k ≤ K ∧ iv = .int .i64 k ∧ Own wr (w.heap.size + 1) 3 (.slice (some ⟨g, 0, none⟩) n c7) (vi .i64 (zeroL l lost k)) ∧ Own wr (w.heap.size + 1) 3 gv (vn .i64 (goneL lost k)) ∧ Below (w.heap.size + 1) (w.alloc (.cells #[.int .i64 (n2 : Int)] 3)) wr ∧ gv.ownBlock ≠ some g) (fun _ iv _ => n - (intOf iv).toNat)
  case atStart => exact ⟨0, by omega, rfl, by rw [zeroL_zero]; exact ho7, Own.nil _ _ _, hb7, by simp [Value.ownBlock]⟩
  case round =>
    obtain ⟨k, hk, rfl, hall, hgone, hbel, hne⟩ := hrel
    by_cases hlt : k < K
    · have hkn : k < n := by omega
      obtain ⟨ad, x, rfl, hb, hx, hc0⟩ := h.int_at hkn
      obtain ⟨ad', y, rfl, hb', hy, hc0'⟩ := h'.bool_at hkn
      have hBx : w.heap.size + 1 ≤ wr.heap.size := by have := hbel.size; simpa using this
      have hc : wr.cell? (ad.add k) = some (.int .i64 x) := (hbel.cell (by rw [block_of_add]; omega)).trans ((World.cell?_alloc_lt w _ _ (by rw [block_of_add]; exact hb)).trans hc0)
      have hc' : wr.cell? (ad'.add k) = some (.bool y) := (hbel.cell (by rw [block_of_add]; omega)).trans ((World.cell?_alloc_lt w _ _ (by rw [block_of_add]; exact hb')).trans hc0')
      have hls : lsB lost k = y := by unfold lsB; rw [List.getD_eq_getElem?_getD, hy]; rfl
      have hZN := zeroL_next (lost := lost) (show k < l.length by rw [HL.out]; exact hkn)
      have hGN := goneL_next lost k
      have hzk := zeroL_at (lost := lost) (k := k) hx
      rw [show decide (k < k) = false by simp, Bool.false_and, if_neg (by simp)] at hzk
      rw [hls] at hZN hGN
      have hbad := HOK.out k hlt
      unfold badAt at hbad
      rw [hls] at hbad
      have hgl : (vn .i64 (goneL lost k)).length ≤ 14 := by rw [List.length_map]; unfold goneL; have := filt_len (lsB lost) k; omega
      cases y with
      | true =>
        have HZN : Hid (zeroL l lost (k + 1) = (zeroL l lost k).set k 0) := by unfold Hid; rw [hZN]; rfl
        have HGN : Hid (vn .i64 (goneL lost k) ++ [Value.int .i64 (k : Int)] = vn .i64 (goneL lost (k + 1))) := by unfold Hid; rw [hGN]; simp [vn]
        have hca := hall.cell (j := k) (u := .int .i64 x) (by rw [List.getElem?_map, hzk]; rfl)
        have hfa := hall.frozenAt k
        have hsa := hall.set k (.int .i64 0)
        have hsg := hgone.setOther ⟨g, k, none⟩ (.int .i64 0) hne
        have hsb := hall.setBelow (Nat.le_refl _) k (.int .i64 0)
        have hgs := grown_setCellY wr ⟨g, k, none⟩ (.int .i64 0)
        rw [add_row] at hca hfa hsa hsb
        rw [vi_set] at hsa
        clear hZN hGN hx hy hls hbad hzk
        go_wp2_with (at_builtin; refine app1 el_intD rfl _ _ rfl rfl hsg (.int .i64 (k : Int)) _ (by show Value.slice (some ⟨wr.heap.size, 0, none⟩) 1 1 = _; simp) rfl (by unfold maxLen; omega) (by omega) (by simp; omega) ?_; intro v2 w2 ho2 hb2 hg2 hat2)
        go_roundw
        case rel => exact ⟨k + 1, by omega, by go_num, by rw [HZN.out]; exact Own.kept hsa hg2 (.inr (fun e => hne e.symm)), by rw [← HGN.out]; exact ho2, (hbel.trans hsb).trans hb2, by
          rcases hat2 with h2 | h2
          · rw [h2]; exact hne
          · rw [h2]; intro e; injection e with e; have := hall.lt g rfl; simp at e; omega⟩
        case measure => simp [intOf]; omega
      | false =>
        have HZN : Hid (zeroL l lost (k + 1) = zeroL l lost k) := by unfold Hid; rw [hZN]; rfl
        have HGN : Hid (goneL lost (k + 1) = goneL lost k) := by unfold Hid; rw [hGN]; simp
        have hfe : fldErr [x] = 0 := by
          have h1 : badF x = false := by
            have : l.getD k 0 = x := by rw [List.getD_eq_getElem?_getD, hx]; rfl
            rw [this] at hbad; exact hbad
          unfold fldErr; simp [h1]
        have c1 := field_Check1 x 0 wr hfe
        clear hZN hGN hx hy hls hbad hzk hfe
        go_wp2_with (go_at_call 40; refine c1.mono ?_; clear c1; rintro e w2 ⟨rfl, m2, rfl⟩)
        go_roundw
        case rel => exact ⟨k + 1, by omega, by go_num, by rw [HZN.out]; exact (hall.alloc _).drewN m2, by rw [HGN.out]; exact (hgone.alloc _).drewN m2, below_drewN (hbel.alloc (by omega) _) m2, hne⟩
        case measure => simp [intOf]; omega
    · have e : k = n := by omega
      have HKE := Lib.hid e
      rw [e] at hall hgone
      have hZD := HD.out.1
      rw [hZD] at hall
      have hgl : (vn .i64 (goneL lost n)).length = (goneL lost n).length := List.length_map _
      have hG2 := hG.out
      obtain ⟨A8, c8, e8⟩ := hgone.form
      rw [hgl] at e8
      subst e8
      have HSZ : w.heap.size + 1 ≤ wr.heap.size := by have := hbel.size; simpa using this
      have hbox : wr.cell? ⟨w.heap.size, 0, none⟩ = some (.int .i64 (n2 : Int)) := (hbel.cell (by simp)).trans (cell_one_new w (.int .i64 (n2 : Int)) 3 0 _ rfl)
      have hD16 := HD.out.2.2
      have hDl := HD.out.2.1
      have hDt16 : ∀ x ∈ D.take n2, x < 16 := fun x hx => hD16 x (List.mem_of_mem_take hx)
      have hDt : vn .i64 (D.take n2) = (vn .i64 D).take n2 := by unfold vn; rw [List.map_take]
      have cS1 := double_sums (some ⟨g, 0, none⟩) n2 n2 (D.take n2) wr (by rw [hDt]; exact hall.reads.take (by omega)) (by omega) hDt16
      rw [dbA_take D n2 n2 (Nat.le_refl _), dbB_take D n2 n2 (Nat.le_refl _)] at cS1
      have hA16 := dbA_lt hD16 n2
      have hB16 := dbB_lt hD16 n2
      have hP16 := hD16 P (mem_at hP.out)
      have hQ16 := hD16 Q (mem_at hQ.out)
      have cC := clone_ints A8 (goneL lost n).length c8 (vn .i64 (goneL lost n)) wr hgone.reads (fun u hu => by obtain ⟨z, _, rfl⟩ := List.mem_map.1 hu; rfl) (by omega)
      clear hgl hZD e
      generalize hGG : (goneL lost n).length = G at *
      have j1 : ¬ (2 : Int) < (G : Int) := by omega
      have j2 : ¬ (k : Int) < (n : Int) := by omega
      have j3 : (n2 : Int) ≤ (c7 : Int) := by omega
      have j4 : n2 ≤ c7 := by omega
      have j5 : (0 : Int) ≤ (n2 : Int) := by omega
      have j6 : ¬ n2 = 0 := by omega
      have j7 : (n2 : Int) < (n : Int) := by omega
      have j8 : (n2 : Int) + 1 < (n : Int) := by omega
      have j9 : IntKind.i64.wrap ((n2 : Int) + 1) = (n2 : Int) + 1 := IntWalk.i64_in _ (by omega)
      have j10 : (0 : Int) ≤ (n2 : Int) + 1 := by omega
      have j11 : ((n2 : Int) + 1).toNat = n2 + 1 := by omega
      go_wp2_with (first
        | (go_at_call 49; refine cS1.mono ?_; clear cS1; rintro e w9 ⟨rfl, rfl⟩)
        | (go_at_call 51; refine cC.mono ?_; clear cC; rintro e w9 ⟨A9, n9, c9, rfl, ho9, hb9⟩; have cI := dbl_inside A9 n9 c9 wr.heap.size n2 w.heap.size lost w9 (by have e : n = n2 + 2 := (by omega); rw [← e]; exact ho9) (by omega) ((hb9.cell (by show w.heap.size < _; omega)).trans hbox) (by omega) hb9.size)
        | (go_at_call 52; refine cI.mono ?_; clear cI; rintro e w10 ⟨A10, n10, c10, rfl, hr10, hb10⟩))
      obtain ⟨ad, x0, rfl, hadb, hx0, hcx0⟩ := h.int_at (k := n2) (by omega)
      obtain ⟨ad1, x1, e1, _, hx1, hcx1⟩ := h.int_at (k := n2 + 1) (by omega)
      injection e1 with e1; subst e1
      obtain ⟨ad', y0, rfl, hadb', hy0, hcy0⟩ := h'.bool_at (k := n2) (by omega)
      obtain ⟨ad1', y1, e1, _, hy1, hcy1⟩ := h'.bool_at (k := n2 + 1) (by omega)
      injection e1 with e1; subst e1
      obtain rfl : y0 = !hasP := by have := hp0.out; rw [hy0] at this; injection this
      obtain rfl : y1 = !hasQ := by have := hq0.out; rw [hy1] at this; injection this
      have hb10w := hb9.trans hb10
      have hball := hbel.trans (hb10w.mono HSZ)
      have keepC : ∀ (W : World), Below (w.heap.size + 1) (w.alloc (.cells #[.int .i64 (n2 : Int)] 3)) W → ∀ (q : Addr), q.block < w.heap.size → W.cell? q = w.cell? q := fun W hW q hq => (hW.cell (by omega)).trans (World.cell?_alloc_lt w _ _ hq)
      have hZP : hasP = true → x0 = (P : Int) := by
        intro hh
        have h1 := zeroL_at (lost := lost) (k := n) hx0
        have h2 : lsB lost n2 = false := by unfold lsB; rw [List.getD_eq_getElem?_getD, hy0, hh]; rfl
        rw [h2, Bool.and_false, if_neg (by simp)] at h1
        have h3 := congrArg (fun z : List Value => z[n2]?) HD.out.1
        simp only [List.getElem?_map, h1, hP.out, Option.map_some] at h3
        injection h3 with h3; injection h3
      have hZQ : hasQ = true → x1 = (Q : Int) := by
        intro hh
        have h1 := zeroL_at (lost := lost) (k := n) hx1
        have h2 : lsB lost (n2 + 1) = false := by unfold lsB; rw [List.getD_eq_getElem?_getD, hy1, hh]; rfl
        rw [h2, Bool.and_false, if_neg (by simp)] at h1
        have h3 := congrArg (fun z : List Value => z[n2 + 1]?) HD.out.1
        simp only [List.getElem?_map, h1, hQ.out, Option.map_some] at h3
        injection h3 with h3; injection h3
      have HZP := Lib.hid hZP
      have HZQ := Lib.hid hZQ
      have hall10 := hall.below hb10w (Nat.le_refl _)
      have a1 := hall10.cell (j := n2) (u := .int .i64 (P : Int)) (by rw [List.getElem?_map, hP.out]; rfl)
      have a2 := hall10.cell (j := n2 + 1) (u := .int .i64 (Q : Int)) (by rw [List.getElem?_map, hQ.out]; rfl)
      rw [add_row] at a1 a2
      have a3 : w10.cell? ⟨w.heap.size, 0, none⟩ = some (.int .i64 (n2 : Int)) := (hb10w.cell (by show w.heap.size < _; omega)).trans hbox
      have a4 : w10.cell? (ad'.add n2) = some (.bool (!hasP)) := (keepC w10 hball _ (by rw [block_of_add]; exact hadb')).trans hcy0
      have x1' := i64_xor_nat (dbA D n2) P (by omega) (by omega)
      have x2' := i64_xor_nat (dbB D n2) Q (by omega) (by omega)
      have hp16 := xor_lt16 hA16 hP16
      have hq16 := xor_lt16 hB16 hQ16
      have hsl := sol_lt (d := D) (gone := goneL lost n2) (hasP := hasP) hp16 hq16
      have cF := fun (W : World) (hW : Own W (w.heap.size + 1) 3 (.slice (some ⟨g, 0, none⟩) n c7) (vn .i64 D)) (hr : Reads W w10.heap.size A10 n10 (vn .i64 (goneL lost n2))) => double_fill n2 c10 n10 g n c7 (w.heap.size + 1) (dbA D n2 ^^^ P) (dbB D n2 ^^^ Q) A10 (goneL lost n2) hasP D W hW hr (fun i hi => (goneL_lt i hi).1) (goneL_nodup _ _) (by
        have h1 := goneL_take lost n2
        have h2 : n = n2 + 2 := by omega
        have h3 := hGG
        rw [h2] at h3
        have := congrArg List.length h1
        rw [List.length_take] at this
        omega) (by omega) (by omega) (by omega) hp16 hq16 hDl
      rw [← hres.out] at cF
      have hr16 : ∀ x ∈ res, x < 16 := by rw [hres.out]; exact setG_16 hD16 hsl.1 hsl.2
      have hrl : res.length = n := by rw [hres.out, setG_len, hDl]
      have HR16 := Lib.hid hr16
      have HRL := Lib.hid hrl
      clear hZP hZQ hsl hr16 hrl hx0 hx1 hy0 hy1 hD16 hDt16 hDt hDl
      generalize dbA D n2 ^^^ P = pX at *
      generalize dbB D n2 ^^^ Q = qX at *
      generalize dbA D n2 = pA at *
      generalize dbB D n2 = pB at *
      go_still_tail 20, (by kernel_rfl)
      go_wp2_with (go_at_call 54; refine (cF _ hall10.drew hr10.drew).mono ?_; clear cF; rintro e w11 ⟨rfl, ho11, hg11⟩)
      have hg11 := grown_fromDrew hg11
      have hB11 : Below (w.heap.size + 1) w10 w11 := grown_below hg11 (by have := hball.size; simpa using this) (fun j hj => by injection hj with hj; omega)
      have hball := hball.trans hB11
      have b1 : w11.cell? ⟨w.heap.size, 0, none⟩ = some (.int .i64 (n2 : Int)) := (hB11.cell (by show w.heap.size < _; omega)).trans a3
      have b2 : w11.cell? (ad'.add n2) = some (.bool (!hasP)) := (keepC w11 hball _ (by rw [block_of_add]; exact hadb')).trans hcy0
      have b3 : w11.cell? (ad'.add (n2 + 1)) = some (.bool (!hasQ)) := (keepC w11 hball _ (by rw [block_of_add]; exact hadb')).trans hcy1
      have b4 : w11.cell? (ad.add n2) = some (.int .i64 x0) := (keepC w11 hball _ (by rw [block_of_add]; exact hadb)).trans hcx0
      have b5 : w11.cell? (ad.add (n2 + 1)) = some (.int .i64 x1) := (keepC w11 hball _ (by rw [block_of_add]; exact hadb)).trans hcx1
      clear keepC
      have b3u := b3
      have b5u := b5
      simp [Addr.add] at b3u b5u
      have hRt16 : ∀ x ∈ res.take n2, x < 16 := fun x hx => HR16.out x (List.mem_of_mem_take hx)
      have hRt : vn .i64 (res.take n2) = (vn .i64 res).take n2 := by unfold vn; rw [List.map_take]
      have hrR : Reads w11 w11.heap.size (some ⟨g, 0, none⟩) n2 (vn .i64 (res.take n2)) := by rw [hRt]; exact ho11.reads.take (by omega)
      have cS2 := double_sums (some ⟨g, 0, none⟩) n2 n2 (res.take n2) w11 hrR (by omega) hRt16
      rw [dbA_take res n2 n2 (Nat.le_refl _), dbB_take res n2 n2 (Nat.le_refl _)] at cS2
      have hbF : Below w.heap.size w w11 := ((Below.refl _ _).alloc (Nat.le_refl _) _).trans (hball.mono (by omega))
      have HOKV : Hid (okG res n2 P Q hasP hasQ = ((!hasP || decide (dbA res n2 = P)) && (!hasQ || decide (dbB res n2 = Q)))) := rfl
      clear hRt16 hRt
      generalize dbA res n2 = pR at *
      generalize dbB res n2 = qR at *
      have HOKV2 : Hid (ok = ((!hasP || decide (pR = P)) && (!hasQ || decide (qR = Q)))) := by unfold Hid; rw [← hok.out, HOKV.out]
      clear hok HOKV
      cases hasP with
      | false =>
        cases hasQ with
        | false =>
          obtain rfl : ok = true := by rw [HOKV2.out]; simp
          clear HOKV2 HZP HZQ
          (try simp only [Bool.not_true] at b2 b3 b3u); (try simp only [Bool.not_false] at b2 b3 b3u)
          refine cS2.mono ?_; clear cS2; rintro e w12 ⟨rfl, rfl⟩
          go_wp2
          go_ret2
          exact ⟨_, _, _, rfl, hrR, hbF⟩
        | true =>
          by_cases hqq : qR = Q
          ·
            obtain rfl : x1 = (Q : Int) := HZQ.out rfl
            obtain rfl : qR = Q := hqq
            have t2 : ((qR : Int) != (qR : Int)) = false := by simp
            obtain rfl : ok = true := by rw [HOKV2.out]; simp
            clear HOKV2 HZP HZQ
            (try simp only [Bool.not_true] at b2 b3 b3u); (try simp only [Bool.not_false] at b2 b3 b3u)
            refine cS2.mono ?_; clear cS2; rintro e w12 ⟨rfl, rfl⟩
            go_wp2
            go_ret2
            exact ⟨_, _, _, rfl, hrR, hbF⟩
          ·
            obtain rfl : x1 = (Q : Int) := HZQ.out rfl
            have t2 : ((qR : Int) != (Q : Int)) = true := by simp; omega
            obtain rfl : ok = false := by rw [HOKV2.out]; simp [hqq]
            clear HOKV2 HZP HZQ hqq
            (try simp only [Bool.not_true] at b2 b3 b3u); (try simp only [Bool.not_false] at b2 b3 b3u)
            refine cS2.mono ?_; clear cS2; rintro e w12 ⟨rfl, rfl⟩
            go_wp2
            go_ret2
            exact ⟨rfl, hbF⟩
      | true =>
        by_cases hpp : pR = P
        ·
          cases hasQ with
          | false =>
            obtain rfl : x0 = (P : Int) := HZP.out rfl
            obtain rfl : pR = P := hpp
            have t1 : ((pR : Int) != (pR : Int)) = false := by simp
            obtain rfl : ok = true := by rw [HOKV2.out]; simp
            clear HOKV2 HZP HZQ
            (try simp only [Bool.not_true] at b2 b3 b3u); (try simp only [Bool.not_false] at b2 b3 b3u)
            refine cS2.mono ?_; clear cS2; rintro e w12 ⟨rfl, rfl⟩
            go_wp2
            go_ret2
            exact ⟨_, _, _, rfl, hrR, hbF⟩
          | true =>
            by_cases hqq : qR = Q
            ·
              obtain rfl : x0 = (P : Int) := HZP.out rfl
              obtain rfl : x1 = (Q : Int) := HZQ.out rfl
              obtain rfl : pR = P := hpp
              obtain rfl : qR = Q := hqq
              have t1 : ((pR : Int) != (pR : Int)) = false := by simp
              have t2 : ((qR : Int) != (qR : Int)) = false := by simp
              obtain rfl : ok = true := by rw [HOKV2.out]; simp
              clear HOKV2 HZP HZQ
              (try simp only [Bool.not_true] at b2 b3 b3u); (try simp only [Bool.not_false] at b2 b3 b3u)
              refine cS2.mono ?_; clear cS2; rintro e w12 ⟨rfl, rfl⟩
              go_wp2
              go_ret2
              exact ⟨_, _, _, rfl, hrR, hbF⟩
            ·
              obtain rfl : x0 = (P : Int) := HZP.out rfl
              obtain rfl : x1 = (Q : Int) := HZQ.out rfl
              obtain rfl : pR = P := hpp
              have t1 : ((pR : Int) != (pR : Int)) = false := by simp
              have t2 : ((qR : Int) != (Q : Int)) = true := by simp; omega
              obtain rfl : ok = false := by rw [HOKV2.out]; simp [hqq]
              clear HOKV2 HZP HZQ hqq
              (try simp only [Bool.not_true] at b2 b3 b3u); (try simp only [Bool.not_false] at b2 b3 b3u)
              refine cS2.mono ?_; clear cS2; rintro e w12 ⟨rfl, rfl⟩
              go_wp2
              go_ret2
              exact ⟨rfl, hbF⟩
        ·
          cases hasQ with
          | false =>
            obtain rfl : x0 = (P : Int) := HZP.out rfl
            have t1 : ((pR : Int) != (P : Int)) = true := by simp; omega
            obtain rfl : ok = false := by rw [HOKV2.out]; simp [hpp]
            clear HOKV2 HZP HZQ hpp
            (try simp only [Bool.not_true] at b2 b3 b3u); (try simp only [Bool.not_false] at b2 b3 b3u)
            refine cS2.mono ?_; clear cS2; rintro e w12 ⟨rfl, rfl⟩
            go_wp2
            go_ret2
            exact ⟨rfl, hbF⟩
          | true =>
            by_cases hqq : qR = Q
            ·
              obtain rfl : x0 = (P : Int) := HZP.out rfl
              obtain rfl : x1 = (Q : Int) := HZQ.out rfl
              obtain rfl : qR = Q := hqq
              have t1 : ((pR : Int) != (P : Int)) = true := by simp; omega
              have t2 : ((qR : Int) != (qR : Int)) = false := by simp
              obtain rfl : ok = false := by rw [HOKV2.out]; simp [hpp]
              clear HOKV2 HZP HZQ hpp
              (try simp only [Bool.not_true] at b2 b3 b3u); (try simp only [Bool.not_false] at b2 b3 b3u)
              refine cS2.mono ?_; clear cS2; rintro e w12 ⟨rfl, rfl⟩
              go_wp2
              go_ret2
              exact ⟨rfl, hbF⟩
            ·
              obtain rfl : x0 = (P : Int) := HZP.out rfl
              obtain rfl : x1 = (Q : Int) := HZQ.out rfl
              have t1 : ((pR : Int) != (P : Int)) = true := by simp; omega
              have t2 : ((qR : Int) != (Q : Int)) = true := by simp; omega
              obtain rfl : ok = false := by rw [HOKV2.out]; simp [hpp, hqq]
              clear HOKV2 HZP HZQ hpp hqq
              (try simp only [Bool.not_true] at b2 b3 b3u); (try simp only [Bool.not_false] at b2 b3 b3u)
              refine cS2.mono ?_; clear cS2; rintro e w12 ⟨rfl, rfl⟩
              go_wp2
              go_ret2
              exact ⟨rfl, hbF⟩
end Go.Proofs.Ythbmnaonnebnhaa

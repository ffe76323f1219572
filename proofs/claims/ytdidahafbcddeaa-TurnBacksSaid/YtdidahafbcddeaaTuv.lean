/-
  quipuref.Turned: all turns; how many come ahead of each.
-/
import Derived.Test.YtdidahafbcddeaaTuu
import Derived.Test.YtdidahafbcddeaaOwnr
import Derived.Test.YtdidahafbcddeaaStep
import Derived.BigRegion
set_option linter.unusedVariables false
namespace Go.Proofs.Ytdidahafbcddeaa
open Go.RowKit Go.Shelf Go.Sort

theorem el_rowsT : Elem Try.prog 70 42 (.slice none 0 0) 24 := Elem.mk' Try.underlying70 (by kernel_rfl) rfl
theorem Reads.dropT {w : World} {B n k : Nat} {ad : Addr} {l : List Nat} (h : Reads w B (some ad) n (vn .u8 l)) (hk : k ≤ n) : Reads w B (some (ad.add k)) (n - k) (vn .u8 (l.drop k)) := by
  refine ⟨by rw [List.length_map, List.length_drop, h.nat_len], fun h0 => ?_⟩
  obtain ⟨a, e, hb, hc⟩ := h.cells (by omega)
  injection e with e; subst e
  refine ⟨_, rfl, by rw [block_of_add]; exact hb, fun j u hu => ?_⟩
  rw [add_of_add]
  refine hc _ u ?_
  rw [List.getElem?_map, List.getElem?_drop, ← List.getElem?_map] at hu
  exact hu
/-- what quipuref.Turned answers -/
def TurP (w : World) (T : List Nat) (e : Ending) (w' : World) : Prop :=
  ∃ A' n' c' out a, e = .returned (.tuple #[.slice A' n' c', .int .i64 ((a : Nat) : Int)]) ∧ TurnR T out a ∧ Reads w' w'.heap.size A' n' (vn .u8 out) ∧ Below w.heap.size w w'
def rowsT (T : List Nat) (k : Nat) : List (List Value) := (List.range k).map fun i => vn .u8 (trn T i)
theorem rowsT_next (T : List Nat) (k : Nat) : rowsT T (k + 1) = rowsT T k ++ [vn .u8 (trn T k)] := by unfold rowsT; rw [List.range_succ, List.map_append]; rfl
theorem rk_pos {T : List Nat} {i : Nat} (hi : i < T.length) : ∃ r t, Ord T r ∧ r[t]? = some i ∧ rkT T i = t ∧ t < T.length := by
  obtain ⟨r, hr⟩ := ord_ex T
  have hm : i ∈ r := hr.perm.mem_iff.2 (List.mem_range.2 hi)
  have hlt := List.idxOf_lt_length_of_mem hm
  have hx : r[r.idxOf i]? = some i := by rw [List.getElem?_eq_getElem hlt, List.getElem_idxOf]
  exact ⟨r, r.idxOf i, hr, hx, hr.rank hx, by rw [← hr.len]; exact hlt⟩
theorem rk_lt {T : List Nat} {i : Nat} (hi : i < T.length) : rkT T i < T.length := by
  obtain ⟨r, t, _, _, h1, h2⟩ := rk_pos hi
  omega
theorem rk_inj {T : List Nat} {i j : Nat} (hi : i < T.length) (hj : j < T.length) (h : rkT T i = rkT T j) : i = j := by
  obtain ⟨r, t, h1, h2, h3, _⟩ := rk_pos hi
  obtain ⟨s, u, g1, g2, g3, _⟩ := rk_pos hj
  obtain rfl := h1.uniq g1
  have : t = u := by omega
  subst this
  rw [h2] at g2
  injection g2
/-- how many of the first j turns come ahead of turn i -/
def cntT (T : List Nat) (i j : Nat) : Nat := ((List.range j).filter fun q => decide (kT T q < kT T i)).length
theorem cntT_next (T : List Nat) (i j : Nat) : cntT T i (j + 1) = cntT T i j + if kT T j < kT T i then 1 else 0 := by
  unfold cntT
  rw [filt_next, List.length_append]
  by_cases h : kT T j < kT T i
  · rw [if_pos (decide_eq_true h), if_pos h]; rfl
  · rw [if_neg (by rw [decide_eq_false h]; simp), if_neg h]; rfl
theorem cntT_le (T : List Nat) (i j : Nat) : cntT T i j ≤ j := filt_len _ _
/-- the last bytes of the first i turns are in their places -/
def OutP (T : List Nat) (i : Nat) (o : List Nat) : Prop := o.length = T.length ∧ ∀ j, j < i → o[rkT T j]? = some (lastT T j)
theorem OutP.step {T o : List Nat} {i : Nat} (h : OutP T i o) (hi : i < T.length) : OutP T (i + 1) (o.set (rkT T i) (lastT T i)) := by
  refine ⟨by rw [List.length_set]; exact h.1, fun j hj => ?_⟩
  rw [List.getElem?_set]
  by_cases e : i = j
  · subst e
    rw [if_pos rfl, if_pos (by rw [h.1]; exact rk_lt hi)]
  · rw [if_neg (fun e2 => e (rk_inj hi (by omega) e2))]
    exact h.2 j (by omega)
theorem kT_cmp {T : List Nat} (hT : Byt T) {i j : Nat} (hi : i < T.length) (hj : j < T.length) : (kT T j < kT T i ↔ (nv (trn T j) < nv (trn T i) ∨ trn T j = trn T i ∧ j < i)) := by
  rw [kT_lt hj hi]
  constructor
  · rintro (h | ⟨h, h2⟩)
    · exact .inl h
    · exact .inr ⟨nv_inj (by rw [trn_len (by omega), trn_len (by omega)]) (trn_byt hT _) (trn_byt hT _) h, h2⟩
  · rintro (h | ⟨h, h2⟩)
    · exact .inl h
    · exact .inr ⟨by rw [h], h2⟩
theorem RowOf.below {w w' : World} {v : Value} {vs : List Value} {xss : List (List Value)} (h : RowOf w v vs xss) (hb : Below w.heap.size w w') : RowOf w' v vs xss := by
  obtain ⟨hl, hr⟩ := h
  refine ⟨hl, fun k xs hk => ?_⟩
  obtain ⟨A, n, c, h1, h2, h3, h4⟩ := hr k xs hk
  exact ⟨A, n, c, h1, (h2.below hb).more hb.size, h3, fun ad ha => ⟨(h4 ad ha).1, Nat.lt_of_lt_of_le (h4 ad ha).2 hb.size⟩⟩
/-- a row of the call's own is pushed: the worlds of the append's step -/
theorem push_row {wo w4 w5 : World} {base n c : Nat} {E : TypeId} {v v' : Value} {vs xs : List Value} {xss : List (List Value)} {A : Option Addr} {O : Obj} {E' : TypeId} (hov : Own wo base E v vs) (hrow : RowOf wo v vs xss) (hb : Below wo.heap.size wo w4) (ho : Own w4 wo.heap.size E' (.slice A n c) xs) (hn : n ≤ maxLen) (hbase : base ≤ w4.heap.size)
    (h5 : Own w5 base E v' (vs ++ [Value.slice A n c])) (hg : (w4.alloc O).grownBy w5 v.ownBlock) (hat : v'.ownBlock = v.ownBlock ∨ v'.ownBlock = some (w4.alloc O).heap.size) : OwnR w5 base E v' (xss ++ [xs]) ∧ Below base w4 w5 := by
  have hg2 : w4.grownBy w5 v.ownBlock := (World.grownBy_alloc w4 O v.ownBlock).trans hg
  have hat2 : v'.ownBlock = v.ownBlock ∨ v'.ownBlock = some (w4.heap.size + 1) := by simpa using hat
  refine ⟨rows_push (hrow.below hb) ho.reads hn (fun ad ha => ?_) (fun ad ha => ?_) h5 hg2 hat2, ?_⟩
  · intro e
    have h1 := ho.beyond ad ha
    have h2 := (Own.lt hov _ e).2
    omega
  · subst ha
    exact (Own.lt ho ad.block rfl).2
  · rcases Nat.lt_or_ge w4.heap.size base with c | c
    · exact absurd hbase (by omega)
    · exact grown_below hg2 c (fun k hk => (Own.lt hov k hk).1)
set_option maxRecDepth 100000 in
set_option maxHeartbeats 1600000 in
theorem ref_Turned (A : Option Addr) (n c : Nat) (T : List Nat) (w : World) (h : Reads w w.heap.size A n (vn .u8 T)) (hB : Byt T) (hn : n ≤ 64) (hc : n ≤ c) :
    Calls Try.prog 19 #[.slice A n c] w (TurP w T) := by
  have HT := Lib.hid h.nat_len
  have HB := Lib.hid hB
  have HH := Lib.hid h
  clear hB h
  go_enter Try.func19, Try.ntmps19
  go_wp2
  go_loopw [6, 5] (fun iv tv wr => ∃ k : Nat, k ≤ n ∧ iv = .int .i64 (k : Int) ∧ OwnR wr w.heap.size 42 tv (rowsT T k) ∧ Below w.heap.size w wr) (fun iv _ _ => n - (intOf iv).toNat)
  case atStart => exact ⟨0, Nat.zero_le _, rfl, OwnR.nil _ _ _, Below.refl _ _⟩
  case round =>
    obtain ⟨k, hk, rfl, hown, hbel⟩ := hrel
    obtain ⟨wo, rfl⟩ : ∃ x, x = wr := ⟨_, rfl⟩
    by_cases hlt : k < n
    · have i1 : (k : Int) < (n : Int) := by omega
      have i0 : (0 : Int) ≤ (k : Int) := by omega
      obtain ⟨ad, rfl, hadb, -⟩ := HH.out.cells (by omega)
      have hck : ¬ c = k := by omega
      have i2 : (k : Int) ≤ (c : Int) := by omega
      have i3 : (k : Int) ≤ (n : Int) := by omega
      obtain ⟨vs, hov, hrow⟩ := hown
      have hvl := Lib.hid hrow.1
      have hrl : Hid ((rowsT T k).length = k) := by unfold Hid rowsT; simp
      obtain ⟨At, ct, et⟩ := hov.form
      rw [hvl.out, hrl.out] at et
      subst et
      have hsz := hbel.size
      have hrd := HH.out.below hbel
      have hd1 : Hid (∀ W, Below wo.heap.size wo W → Reads W w.heap.size (some (ad.add k)) (n - k) (vn .u8 (T.drop k))) := fun W hW => (hrd.below (hW.mono hsz)).dropT (by omega)
      have hd2 : Hid (∀ W, Below wo.heap.size wo W → Reads W w.heap.size (some ad) k (vn .u8 (T.take k))) := fun W hW => (hrd.below (hW.mono hsz)).takeN (by omega)
      have HOV := Lib.hid hov
      have HROW := Lib.hid hrow
      have HBEL := Lib.hid hbel
      have hbE : Below wo.heap.size wo (wo.drew.alloc (.cells #[] 5)) := ((Below.refl _ wo).drew).alloc (Nat.le_refl _) _
      have hoE : Own (wo.drew.alloc (.cells #[] 5)) wo.heap.size 5 (.slice (some ⟨wo.heap.size, 0, none⟩) 0 0) [] := Own.built wo.drew #[] 0 rfl (by unfold maxLen; omega) (Nat.le_refl _)
      have HBE := Lib.hid hbE
      have HOE := Lib.hid hoE
      clear hov hrow hbel hrd hbE hoE
      go_wp2_with fail
      have hl1 : Hid ((vn .u8 (T.drop k)).length = n - k) := by unfold Hid; rw [List.length_map, List.length_drop, HT.out]
      have hl2 : Hid ((vn .u8 (trn T k)).length = n) := by unfold Hid; rw [List.length_map, trn_len (by have := HT.out; omega), HT.out]
      have hcat : Hid (vn .u8 (T.drop k) ++ vn .u8 (T.take k) = vn .u8 (trn T k)) := by unfold Hid trn; rw [← List.map_append]
      have hvl2 : Hid (vs.length = k) := by unfold Hid; rw [hvl.out, hrl.out]
      go_region_law (first
        | (refine step_appG el_concat_bytes rfl (.tmp 20) (.tmp 23) (by rfl) (by first | rfl | (go_simp; done) | (go_simp; rfl)) HOE.out (by first | rfl | (go_simp; done) | (go_simp; rfl)) (hd1.out _ HBE.out) (one_vn _ _) (by unfold maxLen; simp; omega) (by simp; omega) HBE.out.size ?_; intro v3 w3 ho3 hg3 _
           rw [List.nil_append] at ho3
           have hb3 := HBE.out.trans (grown_below hg3 HBE.out.size (fun q hq => (Own.lt HOE.out q hq).1))
           have HB3 := Lib.hid hb3
           clear hg3 hb3)
        | (refine step_appG el_concat_bytes rfl (.tmp 24) (.tmp 27) (by rfl) (by first | rfl | (go_simp; done) | (go_simp; rfl)) ho3 (by first | rfl | (go_simp; done) | (go_simp; rfl)) (hd2.out _ HB3.out) (one_vn _ _) (by rw [hl1.out]; unfold maxLen; omega) (by rw [hl1.out]; omega) HB3.out.size ?_; intro v4 w4 ho4 hg4 _
           rw [hcat.out] at ho4
           have hb4 := HB3.out.trans (grown_below hg4 HB3.out.size (fun q hq => (Own.lt ho3 q hq).1))
           have HB4 := Lib.hid hb4
           obtain ⟨A4, c4, e4⟩ := ho4.form
           rw [hl2.out] at e4
           subst e4
           clear hg4 hb4)
        | (refine step_appG el_rowsT rfl (.tmp 19) (.tmp 29) (by rfl) (by first | rfl | (go_simp; done) | (go_simp; rfl)) ((HOV.out.below HB4.out (Nat.le_refl _)).alloc _) (by first | rfl | (go_simp; done) | (go_simp; rfl)) (reads_lay w4 #[.slice A4 n c4] 42 1 rfl) (by intro u hu; rw [List.mem_singleton.1 hu]; rfl) (by rw [hvl2.out]; unfold maxLen; omega) (by rw [hvl2.out]; omega) (by have := HB4.out.size; simp; omega) ?_; intro v5 w5 ho5 hg5 hat5)
        | fail)
      all_goals
        have hpr := push_row HOV.out HROW.out HB4.out ho4 (by unfold maxLen; omega) (by have := HB4.out.size; omega) ho5 hg5 hat5
        rw [← rowsT_next] at hpr
        have HPR := Lib.hid hpr
        clear ho3 ho4 ho5 hg5 hat5 hpr
        go_wp2
        go_roundw
        case rel => exact ⟨k + 1, by omega, by go_num, HPR.out.1, (HBEL.out.trans (HB4.out.mono hsz)).trans HPR.out.2⟩
        case measure => simp [intOf] <;> omega
    · obtain rfl : k = n := by omega
      have i1 : ¬ (k : Int) < (k : Int) := by omega
      obtain ⟨At, ct, et⟩ := hown.form
      have hrl : (rowsT T k).length = k := by unfold rowsT; simp
      rw [hrl] at et
      subst et
      have hrows := hown.rows
      have HRO := Lib.hid hrows
      have HBEL := Lib.hid hbel
      clear hown hbel hrows hrl
      go_wp2_with (at_make; refine mkN el_concat_bytes rfl _ _ rfl wo.heap.size k rfl rfl rfl rfl (by omega) (by unfold maxLen; omega) (Nat.le_refl _) ?_; intro w2 ho2 hb2 hs2)
      have ho3 : Own w2 wo.heap.size 5 (.slice (some ⟨wo.heap.size, 0, none⟩) k k) (vn .u8 (List.replicate k 0)) := by
        have e : vn .u8 (List.replicate k 0) = List.replicate k (.int .u8 0) := by unfold vn; rw [List.map_replicate]; rfl
        rw [e]; exact ho2
      have HO3 := Lib.hid ho3
      have HB2 := Lib.hid hb2
      have HP0 : Hid (OutP T 0 (List.replicate k 0)) := ⟨by rw [List.length_replicate, HT.out], fun j hj => by omega⟩
      clear ho2 ho3 hb2 hs2
      obtain ⟨g, hg⟩ : ∃ g, wo.heap.size = g := ⟨_, rfl⟩
      have HG := Lib.hid hg
      rw [hg] at HO3 ⊢
      clear hg
      go_loopw [9, 8] (fun iv av wr => ∃ (i a : Nat) (o : List Nat), i ≤ k ∧ iv = .int .i64 (i : Int) ∧ av = .int .i64 (a : Int) ∧ Hid ((i = 0 ∧ a = 0) ∨ (0 < i ∧ a = rkT T 0)) ∧ Hid (OutP T i o) ∧ Own wr g 5 (.slice (some ⟨g, 0, none⟩) k k) (vn .u8 o) ∧ Below g wo wr) (fun iv _ _ => k - (intOf iv).toNat)
      case atStart => exact ⟨0, 0, _, Nat.zero_le _, rfl, rfl, .inl ⟨rfl, rfl⟩, HP0.out, HO3.out, by rw [← HG.out]; exact HB2.out⟩
      case round =>
        obtain ⟨i, a, o, hik, rfl, rfl, ha, hop, hown, hbel⟩ := hrel
        obtain ⟨wp, rfl⟩ : ∃ x, x = wr := ⟨_, rfl⟩
        clear HO3 HP0
        have hro := HRO.out
        rw [HG.out] at hro
        have hrp := hro.below hbel
        by_cases hlt2 : i < k
        · have i2 : (i : Int) < (k : Int) := by omega
          have i0 : (0 : Int) ≤ (i : Int) := by omega
          obtain ⟨adt, xs, Ai, ni, ci, rfl, _, hxi, hci, hri⟩ := hrp.row hlt2
          obtain rfl : vn .u8 (trn T i) = xs := by
            unfold rowsT at hxi
            rw [List.getElem?_map, List.getElem?_range hlt2] at hxi
            injection hxi
          obtain rfl : k = ni := by have := hri.nat_len; rw [trn_len (by have := HT.out; omega), HT.out] at this; exact this
          have HRI := Lib.hid hri
          have HRP := Lib.hid hrp
          have HOW := Lib.hid hown
          have HBL := Lib.hid hbel
          have HCI := Lib.hid hci
          clear hri hrp hown hbel hxi hro
          go_wp2
          go_loopw [11, 10] (fun jv cv wr => ∃ j m : Nat, j ≤ k ∧ jv = .int .i64 (j : Int) ∧ cv = .int .i64 ((cntT T i j : Nat) : Int) ∧ wr = wp.drewN m) (fun jv _ _ => k - (intOf jv).toNat)
          case atStart => exact ⟨0, 0, Nat.zero_le _, rfl, rfl, rfl⟩
          case round =>
            obtain ⟨j, m, hjk, rfl, rfl, rfl⟩ := hrel
            have hcle := cntT_le T i j
            by_cases hlt3 : j < k
            · have j2 : (j : Int) < (k : Int) := by omega
              have j0 : (0 : Int) ≤ (j : Int) := by omega
              obtain ⟨adt', xs, Aj, nj, cj, ej, _, hxj, hcj, hrj⟩ := HRP.out.row hlt3
              injection ej with ej
              subst ej
              obtain rfl : vn .u8 (trn T j) = xs := by
                unfold rowsT at hxj
                rw [List.getElem?_map, List.getElem?_range hlt3] at hxj
                injection hxj
              obtain rfl : k = nj := by have := hrj.nat_len; rw [trn_len (by have := HT.out; omega), HT.out] at this; exact this
              have hcn := Lib.hid (cntT_next T i j)
              have hkc := kT_cmp HB.out (i := i) (j := j) (by have := HT.out; omega) (by have := HT.out; omega)
              have hah := ahB_nv (a := trn T j) (b := trn T i) (by rw [trn_len (by have := HT.out; omega), trn_len (by have := HT.out; omega)]) (trn_byt HB.out _) (trn_byt HB.out _)
              have ca := fun (R : Bool) (hR : Hid (ahB (trn T j) (trn T i) = R)) (q : Nat) => ref_ahead Aj Ai k cj ci (trn T j) (trn T i) R (wp.drewN q) (hrj.drewN q) (HRI.out.drewN q) (by omega) hR
              have cb := fun (R : Bool) (hR : Hid (decide (trn T j = trn T i) = R)) (q : Nat) => ref_Bytes Aj Ai k k cj ci (trn T j) (trn T i) R (wp.drewN q) (hrj.drewN q) (HRI.out.drewN q) (by unfold maxLen; omega) hR
              have hci := HCI.out
              generalize cntT T i j = cn at *
              clear hrj hxj
              by_cases d1 : nv (trn T j) < nv (trn T i)
              · have CA := Lib.hid (ca true (by unfold Hid; rw [hah]; exact decide_eq_true d1))
                have HCN : Hid (cntT T i (j + 1) = cn + 1) := by unfold Hid; rw [hcn.out, if_pos (hkc.2 (.inl d1))]
                clear ca cb hah hkc d1 hcn
                go_wp2
                go_quiet ((go_at_call 42; first | exact quietQ (CA.out _) | exact quietQ2 (CA.out _)))
                go_wp2
                go_roundw
                case rel => exact ⟨j + 1, _, by omega, by go_num, by rw [HCN.out]; go_num, by first | rfl | exact World.drewN_drewN _ _ _⟩
                case measure => simp [intOf] <;> omega
              · have CA := Lib.hid (ca false (by unfold Hid; rw [hah]; exact decide_eq_false d1))
                by_cases d2 : trn T j = trn T i
                · have CB := Lib.hid (cb true (decide_eq_true d2))
                  by_cases d3 : j < i
                  · have HCN : Hid (cntT T i (j + 1) = cn + 1) := by unfold Hid; rw [hcn.out, if_pos (hkc.2 (.inr ⟨d2, d3⟩))]
                    have j3 : decide ((j : Int) < (i : Int)) = true := decide_eq_true (by omega)
                    have j4 : (j : Int) < (i : Int) := by omega
                    clear ca cb hah hkc d1 d2 hcn
                    go_wp2
                    go_quiet (first | (go_at_call 42; first | exact quietQ (CA.out _) | exact quietQ2 (CA.out _)) | (go_at_call 20; first | exact quietQ (CB.out _) | exact quietQ2 (CB.out _)))
                    go_wp2
                    go_roundw
                    case rel => exact ⟨j + 1, _, by omega, by go_num, by rw [HCN.out]; go_num, by first | rfl | exact World.drewN_drewN _ _ _⟩
                    case measure => simp [intOf] <;> omega
                  · have HCN : Hid (cntT T i (j + 1) = cn) := by unfold Hid; rw [hcn.out, if_neg (fun h => by rcases hkc.1 h with h | ⟨_, h⟩; exact d1 h; exact d3 h)]; rfl
                    have j3 : decide ((j : Int) < (i : Int)) = false := decide_eq_false (by omega)
                    have j4 : ¬ (j : Int) < (i : Int) := by omega
                    clear ca cb hah hkc d1 d2 hcn
                    go_wp2
                    go_quiet (first | (go_at_call 42; first | exact quietQ (CA.out _) | exact quietQ2 (CA.out _)) | (go_at_call 20; first | exact quietQ (CB.out _) | exact quietQ2 (CB.out _)))
                    go_wp2
                    go_roundw
                    case rel => exact ⟨j + 1, _, by omega, by go_num, by rw [HCN.out], by first | rfl | exact World.drewN_drewN _ _ _⟩
                    case measure => simp [intOf] <;> omega
                · have CB := Lib.hid (cb false (decide_eq_false d2))
                  have HCN : Hid (cntT T i (j + 1) = cn) := by unfold Hid; rw [hcn.out, if_neg (fun h => by rcases hkc.1 h with h | ⟨h, _⟩; exact d1 h; exact d2 h)]; rfl
                  clear ca cb hah hkc d1 d2 hcn
                  go_wp2
                  go_quiet (first | (go_at_call 42; first | exact quietQ (CA.out _) | exact quietQ2 (CA.out _)) | (go_at_call 20; first | exact quietQ (CB.out _) | exact quietQ2 (CB.out _)))
                  go_wp2
                  go_roundw
                  case rel => exact ⟨j + 1, _, by omega, by go_num, by rw [HCN.out], by first | rfl | exact World.drewN_drewN _ _ _⟩
                  case measure => simp [intOf] <;> omega
            · obtain rfl : j = k := by omega
              have j2 : ¬ (j : Int) < (j : Int) := by omega
              have hrk : cntT T i j = rkT T i := by unfold cntT rkT; rw [HT.out]
              have hrl := rk_lt (T := T) (i := i) (by have := HT.out; omega)
              rw [HT.out] at hrl
              obtain ⟨p, hp⟩ : ∃ p, j - 1 = p := ⟨_, rfl⟩
              have ep : (j : Int) - 1 = (p : Int) := by omega
              have ep1 : (p : Int) < (j : Int) := by omega
              obtain ⟨adi, rfl, -, hcs⟩ := HRI.out.cells (by omega)
              have hcy : wp.cell? (adi.add p) = some (.int .u8 ((lastT T i : Nat) : Int)) := by
                refine hcs p _ ?_
                rw [List.getElem?_map]
                have h1 := trn_len (T := T) (i := i) (by have := HT.out; omega)
                have h2 : (trn T i)[p]? = some (lastT T i) := by
                  unfold lastT
                  rw [List.getD_eq_getElem?_getD, HT.out, hp, List.getElem?_eq_getElem (by have := HT.out; omega)]
                  rfl
                rw [h2]; rfl
              have hset := (HOW.out.set (rkT T i) (.int .u8 ((lastT T i : Nat) : Int)))
              rw [vn_set] at hset
              have hst := hop.out.step (by have := HT.out; omega)
              have hfr := HOW.out.frozenAt (rkT T i)
              have hcl : ∃ y, wp.cell? ((⟨g, 0, none⟩ : Addr).add (rkT T i)) = some y := by
                have hl := HOW.out.len
                exact ⟨_, HOW.out.cell (List.getElem?_eq_getElem (by rw [hl]; exact hrl))⟩
              obtain ⟨y0, hcl⟩ := hcl
              have hbs := HBL.out.setCell (p := (⟨g, 0, none⟩ : Addr).add (rkT T i)) (by rw [block_of_add]; exact Nat.le_refl _) (.int .u8 ((lastT T i : Nat) : Int))
              rw [hrk]
              rw [add_row] at hset hfr hcl hbs
              have hci := HCI.out
              have HR0 : Hid (i = 0 → rkT T i = rkT T 0) := fun e => by rw [e]
              generalize rkT T i = rk at *
              generalize lastT T i = lt at *
              have HSET := Lib.hid hset
              have HST := Lib.hid hst
              have HBS := Lib.hid hbs
              clear hset hst hbs hcs hrk hp
              by_cases hi0 : i = 0
              · have z2 : ((i : Int) == 0) = true := by rw [beq_iff_eq]; omega
                have HI0 := Lib.hid hi0
                clear hi0
                go_wp2
                go_roundw
                case rel => exact ⟨i + 1, rk, _, by omega, by go_num, rfl, .inr ⟨by omega, HR0.out HI0.out⟩, HST.out, by first | exact HSET.out | exact HSET.out.drewN _, by first | exact HBS.out | exact below_drewN HBS.out _⟩
                case measure => simp [intOf] <;> omega
              · have z1 : ¬ (i : Int) = 0 := by omega
                have z2 : ((i : Int) == 0) = false := by rw [beq_eq_false_iff_ne]; exact z1
                go_wp2
                go_roundw
                case rel => exact ⟨i + 1, a, _, by omega, by go_num, rfl, .inr ⟨by omega, by rcases ha.out with h | h; omega; exact h.2⟩, HST.out, by first | exact HSET.out | exact HSET.out.drewN _, by first | exact HBS.out | exact below_drewN HBS.out _⟩
                case measure => simp [intOf] <;> omega
        · obtain rfl : i = k := by omega
          have i2 : ¬ (i : Int) < (i : Int) := by omega
          have hfin : TurnR T o a := turnR_of_rank hop.out.1 (fun j hj => hop.out.2 j (by have := HT.out; omega)) (by
            have := HT.out
            rcases ha.out with ⟨h1, h2⟩ | ⟨h1, h2⟩
            · exact .inl ⟨List.eq_nil_of_length_eq_zero (by omega), h2⟩
            · exact .inr ⟨by omega, h2⟩)
          have HF := Lib.hid hfin
          have hbf : Below w.heap.size w wp := HBEL.out.trans (hbel.mono (by rw [← HG.out]; exact HBEL.out.size))
          clear hop ha hfin hrp hro
          go_wp2
          go_ret2
          exact ⟨_, _, _, o, a, rfl, HF.out, hown.reads, hbf⟩
end Go.Proofs.Ytdidahafbcddeaa

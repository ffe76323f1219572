/-
  prefix.Read: word by word.
-/
import Derived.Test.YtfhpgiidcggobaaPreaf
set_option linter.unusedVariables false
namespace Go.Proofs.Ytfhpgiidcggobaa
open Go.RowKit

theorem prefix_Read_err (A A' : Option Addr) (n c m c' : Nat) (ls : List (List Bool)) (z : Int) (w : World) (h : Reads2c w w.heap.size A n ls) (hn : n ≤ maxLen) (hz : Hid (codeErr ls = z)) (h0 : (z != 0) = true) :
    Calls Try.prog 34 #[.slice A n c, .slice A' m c'] w (RetB w (.tuple #[.slice none 0 0, .int .i64 z])) := by
  have hb0 : Below w.heap.size w (w.alloc (.cells #[.slice A' m c'] 24)) := (Below.refl _ w).alloc (Nat.le_refl _) _
  have cc := prefix_Check A n c ls z (w.alloc (.cells #[.slice A' m c'] 24)) ((h.below hb0).more hb0.size).plain hn hz
  go_enter Try.func34, Try.ntmps34
  go_wp2_with (go_at_call 42; refine cc.mono ?_; rintro e w1 ⟨rfl, m1, rfl⟩)
  go_ret2
  exact ⟨rfl, below_drewN hb0 m1⟩
theorem prefix_Read_form (A A' : Option Addr) (n c m c' : Nat) (ls : List (List Bool)) (w : World) (h : Reads2c w w.heap.size A n ls) (hn : n ≤ maxLen) (hz : Hid (codeErr ls = 0)) (h0 : freeB ls n = false ∨ noneB ls n = true) :
    Calls Try.prog 34 #[.slice A n c, .slice A' m c'] w (RetB w (.tuple #[.slice none 0 0, .int .i64 3])) := by
  have hb0 : Below w.heap.size w (w.alloc (.cells #[.slice A' m c'] 24)) := (Below.refl _ w).alloc (Nat.le_refl _) _
  have cc := prefix_Check A n c ls 0 (w.alloc (.cells #[.slice A' m c'] 24)) ((h.below hb0).more hb0.size).plain hn hz
  have cf := fun q => prefix_free A n c ls ((w.alloc (.cells #[.slice A' m c'] 24)).drewN q) (((h.below hb0).more hb0.size).drewN q) hn
  have ce := fun q => read_none A n c ls ((w.alloc (.cells #[.slice A' m c'] 24)).drewN q) (((h.below hb0).more hb0.size).drewN q) hn
  generalize freeB ls n = fr at *
  generalize noneB ls n = no at *
  cases fr
  · clear h0
    go_enter Try.func34, Try.ntmps34
    go_wp2_with (first | (go_at_call 42; refine cc.mono ?_; rintro e w1 ⟨rfl, m1, rfl⟩) | (go_at_call 49; refine (cf _).mono ?_; rintro e w1 ⟨rfl, m2, rfl⟩))
    go_ret2
    exact ⟨rfl, by first | exact below_drewN hb0 _ | exact below_drewN (below_drewN hb0 _) _⟩
  · obtain rfl : no = true := h0.resolve_left (by simp)
    clear h0
    go_enter Try.func34, Try.ntmps34
    go_wp2_with (first | (go_at_call 42; refine cc.mono ?_; rintro e w1 ⟨rfl, m1, rfl⟩) | (go_at_call 49; refine (cf _).mono ?_; rintro e w1 ⟨rfl, m2, rfl⟩) | (go_at_call 59; first | (refine (ce _).mono ?_; rintro e w1 ⟨rfl, m3, rfl⟩) | (rw [World.drewN_drewN]; refine (ce _).mono ?_; rintro e w1 ⟨rfl, m3, rfl⟩)))
    go_ret2
    exact ⟨rfl, by first | exact below_drewN hb0 _ | exact below_drewN (below_drewN hb0 _) _ | exact below_drewN (below_drewN (below_drewN hb0 _) _) _⟩
theorem block_addR (p : Addr) (k : Nat) : (p.add k).block = p.block := by unfold Addr.add; split <;> rfl
theorem Reads2c.rowB {w : World} {B : Nat} {A : Option Addr} {n k : Nat} {ls : List (List Bool)} (h : Reads2c w B A n ls) (hk : k < n) :
    ∃ ad Ar nr cr, A = some ad ∧ ad.block < B ∧ w.cell? (ad.add k) = some (.slice Ar nr cr) ∧ (ls.getD k []).length = nr := by
  obtain ⟨vs, hv, hl, he⟩ := h
  obtain ⟨ad, u, rfl, hb, hx, hc⟩ := hv.at_ hk
  have hk' : k < ls.length := by rw [← hl]; exact (List.getElem?_eq_some_iff.1 hx).1
  obtain ⟨A', n', c', e, h2, _⟩ := he k _ (List.getElem?_eq_getElem hk')
  rw [hx] at e
  injection e with e
  subst e
  exact ⟨ad, A', n', c', rfl, hb, hc, by rw [List.getD_eq_getElem?_getD, List.getElem?_eq_getElem hk']; exact h2.bool_len⟩
set_option maxRecDepth 100000 in
set_option maxHeartbeats 3000000 in
theorem prefix_Read (A A' : Option Addr) (n c m c' : Nat) (ls : List (List Bool)) (bits : List Bool) (R : Option (List Nat)) (w : World) (h : Reads2c w w.heap.size A n ls) (h' : Reads w w.heap.size A' m (vb bits)) (hc : m ≤ c') (hn : n ≤ 8) (hm : m ≤ 1048576) (hz : Hid (codeErr ls = 0)) (hfr : freeB ls n = true) (hno : noneB ls n = false) (hne : ∀ s, s < n → 1 ≤ (ls.getD s []).length) (hR : Hid (readR ls n m bits [] = R)) :
    Calls Try.prog 34 #[.slice A n c, .slice A' m c'] w (RetRd w (.returned (.tuple #[.slice none 0 0, .int .i64 5])) (fun A n c => .returned (.tuple #[.slice A n c, .int .i64 0])) R) := by
  have hn63 : n ≤ maxLen := by unfold maxLen; omega
  have hb0 : Below w.heap.size w (w.alloc (.cells #[.slice A' m c'] 24)) := (Below.refl _ w).alloc (Nat.le_refl _) _
  have bX := Boxed.new w 24 (.slice A' m c')
  have hsz0 : (w.alloc (.cells #[.slice A' m c'] 24)).heap.size = w.heap.size + 1 := by simp
  have cc := prefix_Check A n c ls 0 (w.alloc (.cells #[.slice A' m c'] 24)) ((h.below hb0).more hb0.size).plain hn63 hz
  have cf := fun q => prefix_free A n c ls ((w.alloc (.cells #[.slice A' m c'] 24)).drewN q) (((h.below hb0).more hb0.size).drewN q) hn63
  have ce := fun q => read_none A n c ls ((w.alloc (.cells #[.slice A' m c'] 24)).drewN q) (((h.below hb0).more hb0.size).drewN q) hn63
  rw [hfr] at cf
  rw [hno] at ce
  have HNE := Lib.hid hne
  have HH' := Lib.hid h'
  have HB0 := Lib.hid hb0
  have HBX := Lib.hid bX
  have HSZ := Lib.hid hsz0
  clear hne h' hfr hno hz hb0 bX hsz0
  go_enter Try.func34, Try.ntmps34
  go_wp2_with (first | (go_at_call 42; refine cc.mono ?_; clear cc; rintro e w1 ⟨rfl, m1, rfl⟩) | (go_at_call 49; refine (cf _).mono ?_; clear cf; rintro e w1 ⟨rfl, m2, rfl⟩) | (go_at_call 59; first | (refine (ce _).mono ?_; clear ce; rintro e w1 ⟨rfl, m3, rfl⟩) | (rw [World.drewN_drewN]; refine (ce _).mono ?_; clear ce; rintro e w1 ⟨rfl, m3, rfl⟩)))
  go_loopw [7] (fun v7 wr => ∃ (f m1 c1 : Nat) (A1 : Option Addr) (bq : List Bool) (acc : List Nat), (wr.cell? ⟨w.heap.size, 0, none⟩ = some (.slice A1 m1 c1) ∧ wr.frozen? ⟨w.heap.size, 0, none⟩ = false ∧ w.heap.size < wr.heap.size) ∧ Reads wr w.heap.size A1 m1 (vb bq) ∧ m1 ≤ c1 ∧ m1 ≤ f ∧ acc.length + f = m ∧ Own wr (w.heap.size + 1) 3 v7 (vn .i64 acc) ∧ Below w.heap.size w wr ∧ Hid (readR ls n f bq acc = R)) (fun v7 _ => m - slenR v7)
  case atStart => exact ⟨m, m, c', A', bits, [], ⟨HBX.out.cell, HBX.out.frozen, by have := HSZ.out; simp⟩, by first | exact ((HH'.out.below HB0.out).drewN _) | exact ((HH'.out.below HB0.out).drewN _).drewN _, hc, Nat.le_refl _, by simp, Own.nil _ _ _, by first | exact below_drewN HB0.out _ | exact below_drewN (below_drewN HB0.out _) _, hR⟩
  case round =>
    obtain ⟨f, m1, c1, A1, bq, acc, ⟨hbx, hfz, hszb⟩, hbq, hc1, hf, hacc, hown, hbel, hr⟩ := hrel
    obtain ⟨wo, rfl⟩ : ∃ x, x = wr := ⟨_, rfl⟩
    clear hR
    have hbl := hbq.bool_len
    have HOWN := Lib.hid hown
    have HACC := Lib.hid hacc
    have hm1 : m1 ≤ 1048576 := by omega
    obtain ⟨A7, c7, e7⟩ := hown.form
    have hvl : (vn .i64 acc).length = acc.length := by simp [vn]
    rw [hvl] at e7
    subst e7
    clear hown hacc hvl
    by_cases hpos : 0 < m1
    · have j0 : (0 : Int) < (m1 : Int) := by omega
      have hb0 : bq ≠ [] := by intro e; subst e; simp at hbl; omega
      have cF := read_find ⟨w.heap.size, 0, none⟩ A A1 n c m1 c1 ls bq wo hbx ((h.below hbel).more hbel.size) hbq hn63 (by unfold maxLen; omega) hc1
      rcases hfc : idx_cases (fun s => begB (ls.getD s []) bq) n with ⟨k, h1, h2, _, h4⟩ | ⟨h1, h2⟩
      · have hfw : findW ls n bq = (k : Int) := h4
        rw [hfw] at cF
        obtain ⟨f', rfl⟩ : ∃ f', f = f' + 1 := ⟨f - 1, by omega⟩
        have hr2 : Hid (readR ls n f' (bq.drop (ls.getD k []).length) (acc ++ [k]) = R) := by unfold Hid; rw [← readR_next hb0 hfw]; exact hr.out
        obtain ⟨hle, _⟩ := begB_true h2
        have hn1 := HNE.out k h1
        rw [hbl] at hle
        obtain ⟨ad, Ar, r, cr, e, hadb, hcr0, hrl⟩ := h.rowB h1
        subst e
        rw [hrl] at hr2 hn1 hle
        have hcr : wo.cell? (ad.add k) = some (.slice Ar r cr) := (hbel.cell (by rw [block_addR]; exact hadb)).trans hcr0
        obtain ⟨ad1, rfl⟩ := hbq.addr hpos
        have hdr := hbq.dropR hle
        have hvs : vn .i64 acc ++ [Value.int .i64 (k : Int)] = vn .i64 (acc ++ [k]) := by simp [vn]
        have HVS := Lib.hid hvs
        have HDR := Lib.hid hdr
        have HD0 : Hid (Reads wo w.heap.size (some ad1) 0 (vb (bq.drop m1))) := by
          unfold Hid
          have h1 := hbq.take (k := 0) (by omega)
          rw [List.drop_of_length_le (by omega)]
          simpa [vb] using h1
        have k1 : (k : Int) < (n : Int) := by omega
        have k0 : ¬ (k : Int) < 0 := by omega
        have k00 : (0 : Int) ≤ (k : Int) := by omega
        have l0 : (0 : Int) ≤ (r : Int) := by omega
        have l1 : (r : Int) ≤ (m1 : Int) := by omega
        have hav : (vn .i64 acc).length ≤ 1048575 := by
          have := HACC.out
          simp [vn]
          omega
        have HA2 : Hid ((acc ++ [k]).length + f' = m) := by
          have := HACC.out
          unfold Hid
          simp
          omega
        have HBE := Lib.hid hbel
        have HAD := Lib.hid hadb
        clear hfc h1 h2 h4 hfw hdr hvs hr hbel hb0 hbl hrl hcr0 hbq hadb
        have HDX : Hid (Reads wo w.heap.size (if c1 = r then some ad1 else some (ad1.add r)) (m1 - r) (vb (bq.drop r))) := by
          unfold Hid
          by_cases e : c1 = r
          · obtain rfl : r = m1 := by omega
            rw [if_pos e, Nat.sub_self]
            exact HD0.out
          · rw [if_neg e]; exact HDR.out
        have hl3 : (vn .i64 (acc ++ [k])).length = acc.length + 1 := by simp [vn]
        have HL3 := Lib.hid hl3
        have ham : acc.length < m := by
          have := HACC.out
          omega
        clear hl3 HD0 HDR
        generalize ha : acc.length = a at *
        clear ha
        · go_wp2_with (go_at_call 61; refine cF.mono ?_; clear cF; rintro e w4 ⟨rfl, m4, hw4⟩; have hbx4 : w4.cell? ⟨w.heap.size, 0, none⟩ = some (.slice (some ad1) m1 c1) := (by rw [hw4]; exact hbx); have hfz4 : w4.frozen? ⟨w.heap.size, 0, none⟩ = false := (by rw [hw4]; exact hfz); have hcr4 : w4.cell? (ad.add k) = some (.slice Ar r cr) := (by rw [hw4]; exact hcr); have ho4 := HOWN.out.drewN m4; rw [← hw4] at ho4; have hB4 : Below w.heap.size wo w4 := (by rw [hw4]; exact below_drewN (Below.refl _ wo) m4); have hs4 : w.heap.size < w4.heap.size := (by rw [hw4]; exact hszb); clear hw4 hbx hfz hcr)
          have hone : Reads (w4.alloc (.cells #[.int .i64 (k : Int)] 3)).drew (w4.alloc (.cells #[.int .i64 (k : Int)] 3)).drew.heap.size (some ⟨w4.heap.size, 0, none⟩) 1 [.int .i64 (k : Int)] := (Own.built (base := w4.heap.size) w4 #[.int .i64 (k : Int)] 1 rfl (by unfold maxLen; omega) (Nat.le_refl _)).drew.reads
          have hoA := (ho4.alloc (.cells #[.int .i64 (k : Int)] 3)).drew
          have hbA : Below (w.heap.size + 1) w4 (w4.alloc (.cells #[.int .i64 (k : Int)] 3)).drew := ((Below.refl _ w4).alloc (by omega) _).drew
          have HSA : Hid (w.heap.size + 1 ≤ (w4.alloc (.cells #[.int .i64 (k : Int)] 3)).drew.heap.size) := Nat.le_trans hs4 hbA.size
          have hcrA : (w4.alloc (.cells #[.int .i64 (k : Int)] 3)).cell? (ad.add k) = some (.slice Ar r cr) := (hbA.cell (p := ad.add k) (by rw [block_addR]; exact Nat.lt_succ_of_lt HAD.out)).trans hcr4
          have hbxA : (w4.alloc (.cells #[.int .i64 (k : Int)] 3)).cell? ⟨w.heap.size, 0, none⟩ = some (.slice (some ad1) m1 c1) := (hbA.cell (p := ⟨w.heap.size, 0, none⟩) (Nat.lt_succ_self _)).trans hbx4
          have hfzA : (w4.alloc (.cells #[.int .i64 (k : Int)] 3)).frozen? ⟨w.heap.size, 0, none⟩ = false := (hbA.frozen (p := ⟨w.heap.size, 0, none⟩) (Nat.lt_succ_self _)).trans hfz4
          have HONE := Lib.hid hone
          have HOA := Lib.hid hoA
          have HBA := Lib.hid hbA
          clear hone hoA hbA
          go_region_law (refine step_appG el_intsR rfl (.tmp 29) (.tmp 31) rfl rfl HOA.out rfl HONE.out (by intro u hu; rw [List.mem_singleton.1 hu]; rfl) (by unfold maxLen; omega) (by omega) HSA.out ?_; intro v3 w3 ho3 hg3 _; rw [HVS.out] at ho3; have hB3 : Below (w.heap.size + 1) w4 w3 := HBA.out.trans (grown_below hg3 HSA.out (fun j hj => (Own.lt HOA.out j hj).1)); have hbx3 := (hB3.cell (p := ⟨w.heap.size, 0, none⟩) (Nat.lt_succ_self _)).trans hbx4; have hfz3 := (hB3.frozen (p := ⟨w.heap.size, 0, none⟩) (Nat.lt_succ_self _)).trans hfz4; have hcr3 := (hB3.cell (p := ad.add k) (by rw [block_addR]; exact Nat.lt_succ_of_lt HAD.out)).trans hcr4; clear hg3)
          all_goals
            obtain ⟨A3, c3, e3⟩ := ho3.form
            rw [HL3.out] at e3
            subst e3
            have hs3 := hB3.size
            have hB5 := (hB4.trans (hB3.mono (Nat.le_succ _))).setCell (p := ⟨w.heap.size, 0, none⟩) (Nat.le_refl _) (.slice (if c1 = r then some ad1 else some (ad1.add r)) (m1 - r) (c1 - r))
            have ho5 := ho3.setOther ⟨w.heap.size, 0, none⟩ (.slice (if c1 = r then some ad1 else some (ad1.add r)) (m1 - r) (c1 - r)) (fun e => absurd (Own.lt ho3 _ e).1 (Nat.not_succ_le_self _))
            have hbx5 := World.cell?_setCell_same' w3 ⟨w.heap.size, 0, none⟩ (.slice (if c1 = r then some ad1 else some (ad1.add r)) (m1 - r) (c1 - r)) (by rw [hbx3]; rfl)
            have hfz5 : (w3.setCell ⟨w.heap.size, 0, none⟩ (.slice (if c1 = r then some ad1 else some (ad1.add r)) (m1 - r) (c1 - r))).frozen? ⟨w.heap.size, 0, none⟩ = false := by rw [World.frozen?_setCell]; exact hfz3
            have hr5 := HDX.out.below hB5
            have hs5 : w.heap.size < (w3.setCell ⟨w.heap.size, 0, none⟩ (.slice (if c1 = r then some ad1 else some (ad1.add r)) (m1 - r) (c1 - r))).heap.size := Nat.lt_of_lt_of_le hszb hB5.size
            clear hbx3 hfz3 hcr3 hbx4 hfz4 hcr4 hcrA hbxA hfzA
            go_roundw
            case rel =>
              (repeat apply Exists.intro)
              exact ⟨⟨f', m1 - r, c1 - r, _, bq.drop r, acc ++ [k], ⟨hbx5, hfz5, hs5⟩, hr5, by omega, by omega, HA2.out, ho5, HBE.out.trans hB5, hr2⟩, rfl⟩
            case measure => simp [slenR] <;> omega
      · have hfw : findW ls n bq = -1 := h2
        rw [hfw] at cF
        have hr2 : Hid (R = none) := by unfold Hid; rw [← hr.out, readR_none hb0 hfw]
        clear hfc h1 h2 hfw hr
        go_wp2_with (go_at_call 61; refine cF.mono ?_; clear cF; rintro e w4 ⟨rfl, m4, rfl⟩)
        go_ret2
        exact retRd_none hr2.out rfl (below_drewN hbel _)
    · obtain rfl : m1 = 0 := by omega
      have hbe : bq = [] := List.eq_nil_of_length_eq_zero hbl
      have hr2 : Hid (R = some acc) := by unfold Hid; rw [← hr.out, hbe, readR_end]
      clear hr hbe
      go_wp2
      go_ret2
      exact retRd_some hr2.out rfl (Own.low HOWN.out (Nat.le_succ _)) hbel
end Go.Proofs.Ytfhpgiidcggobaa

/-
  rank.List, against the reference's way from list to list.
-/
import Derived.Test.YtmepiiheidmbgaaRankq
import Derived.Test.YtmepiiheidmbgaaStep
import Derived.Test.YtmepiiheidmbgaaCut
import Derived.Test.YtmepiiheidmbgaaOwnr
import Derived.Deep.RegionLaw
set_option linter.unusedVariables false
namespace Go.Proofs.Ytmepiiheidmbgaa
open Go.RowKit

theorem rank_List_big (n i : Int) (w : World) (hn : n < 0 ∨ 8 < n) :
    Calls Try.prog 38 #[.int .i64 n, .int .i64 i] w (Ret w (.tuple #[.slice none 0 0, .int .i64 1])) := by
  by_cases h0 : n < 0
  · go_enter Try.func38, Try.ntmps38
    go_wp2
    go_ret2
    exact ⟨rfl, rfl⟩
  · have h1 : 8 < n := by omega
    go_enter Try.func38, Try.ntmps38
    go_wp2
    go_ret2
    exact ⟨rfl, rfl⟩
theorem rank_List_none (n : Nat) (i : Int) (w : World) (hn : n ≤ 8) (hi : i < 0 ∨ (fct n : Int) ≤ i) :
    Calls Try.prog 38 #[.int .i64 (n : Int), .int .i64 i] w (Ret w (.tuple #[.slice none 0 0, .int .i64 5])) := by
  have cl := rank_lists n w hn
  have j0 : ¬ (n : Int) < 0 := by omega
  have j1 : ¬ (8 : Int) < (n : Int) := by omega
  generalize fct n = F at *
  by_cases h0 : i < 0
  · go_enter Try.func38, Try.ntmps38
    go_wp2
    go_ret2
    exact ⟨rfl, rfl⟩
  · have h1 : (F : Int) ≤ i := by omega
    go_enter Try.func38, Try.ntmps38
    go_wp2_with (go_at_call 65; refine cl.mono ?_; clear cl; rintro e w' ⟨rfl, rfl⟩)
    go_ret2
    exact ⟨rfl, rfl⟩
theorem unL_eq (n : Nat) (left : List Nat) (r : Nat) : unL (n + 1) left r = left.getD (r / fct n) 0 :: unL n (left.eraseIdx (r / fct n)) (r % fct n) := by rw [unL]
set_option maxRecDepth 100000 in
set_option maxHeartbeats 1600000 in
theorem rank_List (n i : Nat) (w : World) (hn : n ≤ 8) (hi : i < fct n) :
    Calls Try.prog 38 #[.int .i64 (n : Int), .int .i64 (i : Int)] w (fun e w' => Below w.heap.size w w' ∧ ∃ A' c', e = .returned (.tuple #[.slice A' n c', .int .i64 0]) ∧ Own w' w.heap.size 3 (.slice A' n c') (vn .i64 (unL n (List.range n) i))) := by
  have cl := fun (m : Nat) (W : World) (hm : m ≤ 8) => rank_lists m W hm
  have cl0 := cl n w hn
  have j0 : ¬ (n : Int) < 0 := by omega
  have j1 : ¬ (8 : Int) < (n : Int) := by omega
  have j2 : ¬ (i : Int) < 0 := by omega
  have HI := Lib.hid hi
  have hi2 := hi
  have hfn := fct_le hn
  obtain ⟨F, hF⟩ : ∃ F, fct n = F := ⟨_, rfl⟩
  rw [hF] at cl0 hi2 hfn
  have j3 : ¬ (F : Int) ≤ (i : Int) := by omega
  have j4 : ¬ F ≤ i := by omega
  clear hF hi
  go_enter Try.func38, Try.ntmps38
  go_wp2_with (go_at_call 65; refine cl0.mono ?_; clear cl0; rintro e w' ⟨rfl, rfl⟩)
  go_loopw [6, 27] (fun v iv wr => ∃ k : Nat, k ≤ n ∧ iv = .int .i64 k ∧ Own wr w.heap.size 3 v (vn .i64 (List.range k)) ∧ Below w.heap.size w wr) (fun _ iv _ => n - (intOf iv).toNat)
  case atStart => exact ⟨0, by omega, rfl, Own.nil _ _ _, Below.refl _ _⟩
  case round =>
    obtain ⟨k, hk, rfl, hown, hbel⟩ := hrel
    have hvl : Hid ((vn .i64 (List.range k)).length = k) := by unfold Hid; simp
    by_cases hlt : k < n
    · have HN : Hid (vn .i64 (List.range k) ++ [Value.int .i64 (k : Int)] = vn .i64 (List.range (k + 1))) := by unfold Hid; rw [List.range_succ]; simp [vn]
      go_wp2_with (at_builtin; refine app1 el_intN rfl _ _ rfl rfl hown _ _ rfl rfl (by rw [hvl.out]; unfold maxLen; omega) (by rw [hvl.out]; omega) hbel.size ?_; intro v2 w2 ho2 hb2 _ _)
      rw [HN.out] at ho2
      go_roundw
      case rel => exact ⟨k + 1, by omega, by go_num, ho2, hbel.trans hb2⟩
      case measure => simp [intOf]; omega
    · obtain rfl : k = n := by omega
      have HAP : Hid (u6.ownBlock ≠ none ∨ k = 0) := by
        rcases hown.2 with ⟨rfl, h0⟩ | ⟨g, cap, cur, rfl, _⟩
        · right; simpa using h0
        · left; simp [Value.ownBlock]
      go_wp2
      obtain ⟨LA0, lc0, le0⟩ := hown.form
      rw [hvl.out] at le0
      subst le0
      have hcap0 := hown.capLe'
      have hmax0 := hown.capMax
      go_loopw [1, 6, 7, 36] (fun rv lv ov kv wr => ∃ (k' f r lc : Nat) (LA : Option Addr) (left out : List Nat), k' + f = k ∧ kv = .int .i64 k' ∧ rv = .int .i64 (r : Int) ∧ r ≤ 40320 ∧ lv = .slice LA f lc ∧ f ≤ lc ∧ lc ≤ maxLen ∧ Reads wr wr.heap.size LA f (vn .i64 left) ∧ Own wr w.heap.size 3 ov (vn .i64 out) ∧ (∀ ad, LA = some ad → ov.ownBlock ≠ some ad.block ∧ w.heap.size ≤ ad.block) ∧ Below w.heap.size w wr ∧ out.length = k' ∧ Hid (r < fct f ∧ out ++ unL f left r = unL k (List.range k) i)) (fun _ _ _ kv _ => k - (intOf kv).toNat)
      case atStart => exact ⟨0, k, i, lc0, LA0, List.range k, [], by omega, rfl, rfl, by omega, rfl, hcap0, hmax0, hown.reads, Own.nil _ _ _, fun ad e => ⟨by simp [Value.ownBlock], (hown.lt _ (by rw [e]; rfl)).1⟩, hbel, rfl, HI.out, by simp⟩
      case round =>
        clear hown hbel hcap0 hmax0
        obtain ⟨k', f, r, lc, LA, left, out, hkf, rfl, rfl, hr4, rfl, hfc, hlm, hL, hO, hap, hbel, hol, hst⟩ := hrel
        by_cases hlt2 : k' < k
        · obtain ⟨f', rfl⟩ : ∃ f', f = f' + 1 := ⟨f - 1, by omega⟩
          have hrf := hst.out.1
          have hun := hst.out.2
          have hat := div_lt_fct hrf
          rw [unL_eq] at hun
          have hmod : r % fct f' < fct f' := Nat.mod_lt _ (fct_pos f')
          have hff := fct_le (n := f') (by omega)
          have hfp := fct_pos f'
          have cl := cl f'
          obtain ⟨P, hP⟩ : ∃ P, fct f' = P := ⟨_, rfl⟩
          rw [hP] at hun hat hmod hff hfp cl
          obtain ⟨a, ha⟩ : ∃ a, r / P = a := ⟨_, rfl⟩
          obtain ⟨b, hb⟩ : ∃ b, r % P = b := ⟨_, rfl⟩
          rw [ha, hb] at hun
          rw [ha] at hat
          rw [hb] at hmod
          have hai : (r : Int) / (P : Int) = (a : Int) := by rw [← ha]; exact (Int.natCast_ediv r P).symm
          have hbi : (r : Int) % (P : Int) = (b : Int) := by rw [← hb]; exact (Int.natCast_emod r P).symm
          have hfi : (k : Int) - 1 - (k' : Int) = (f' : Int) := by omega
          have hpz : ((P : Int) == 0) = false := by simp; omega
          have hpz2 : ¬ (P : Int) = 0 := by omega
          have hb4 : b ≤ 40320 := by omega
          obtain ⟨x, hx⟩ : ∃ x, left.getD a 0 = x := ⟨_, rfl⟩
          rw [hx] at hun
          have HST : Hid (b < fct f' ∧ (out ++ [x]) ++ unL f' (left.eraseIdx a) b = unL k (List.range k) i) := ⟨by rw [hP]; exact hmod, by rw [List.append_assoc]; exact hun⟩
          have hll := hL.nat_len
          have HL2 := Lib.hid hll
          obtain ⟨ad, rfl, hadl, hcells⟩ := hL.cells (by omega)
          obtain ⟨hap1, hap2⟩ := hap ad rfl
          have hcx : wr.cell? (ad.add a) = some (.int .i64 (x : Int)) := by
            refine hcells a _ ?_
            rw [List.getElem?_map, getD_at (by omega), hx]; rfl
          have i1 : (a : Int) < ((f' + 1 : Nat) : Int) := by omega
          have i2 : (0 : Int) ≤ (a : Int) := by omega
          clear hst hrf hun hP ha hb hx hmod hll hcells
          have hLt : Reads wr wr.heap.size (some ad) a (vn .i64 (left.take a)) := by
            have h := hL.cutTo (k := a) (by omega)
            unfold vn at h ⊢; rw [List.map_take]; exact h
          have hLd : Reads wr wr.heap.size (some (ad.add (a + 1))) (f' + 1 - (a + 1)) (vn .i64 (left.drop (a + 1))) := by
            have h := hL.cutFrom (k := a + 1) (by omega)
            unfold vn at h ⊢; rw [List.map_drop]; exact h
          have HE : Hid (vn .i64 (left.take a) ++ vn .i64 (left.drop (a + 1)) = vn .i64 (left.eraseIdx a)) := by
            unfold Hid; rw [← List.map_append, List.eraseIdx_eq_take_drop_succ]
          have HO : Hid (vn .i64 out ++ [Value.int .i64 (x : Int)] = vn .i64 (out ++ [x])) := by unfold Hid; simp [vn]
          have hol2 := Lib.hid hol
          clear hL hap
          have i5 : a ≤ lc := by omega
          have i6 : a + 1 ≤ f' + 1 := by omega
          have i7 : ((a : Int) + 1) ≤ ((f' + 1 : Nat) : Int) := by omega
          have hwr : IntKind.i64.wrap ((a : Int) + 1) = ((a + 1 : Nat) : Int) := by rw [IntKind.wrap_i64]; omega
          have i8 : (0 : Int) ≤ ((a + 1 : Nat) : Int) := by omega
          have i9 : ((a + 1 : Nat) : Int) ≤ (f' : Int) + 1 := by omega
          have i13 : (a : Int) ≤ (a : Int) + 1 := by omega
          have i11 : a ≤ f' := by omega
          have i12 : (0 : Int) ≤ (a : Int) + 1 := by omega
          have i10 : (((a + 1 : Nat) : Int)).toNat = a + 1 := by omega
          by_cases hcut : a + 1 < lc
          · have hc1 : ¬ lc = a + 1 := by omega
            go_wp2_with (first
              | (go_at_call 65; refine (cl _ (by omega)).mono ?_; clear cl; rintro e w' ⟨rfl, rfl⟩)
              | (at_builtin; refine app1 el_intN rfl _ _ rfl rfl hO _ _ rfl rfl (by rw [List.length_map, hol2.out]; unfold maxLen; omega) (by rw [List.length_map, hol2.out]; omega) hbel.size ?_; clear hO; intro v2 w2 ho2 hb2 hg2 hat2))
            rw [HO.out] at ho2
            change wr.grownBy w2 u7.ownBlock at hg2
            change v2.ownBlock = u7.ownBlock ∨ v2.ownBlock = some (wr.heap.size + 1) at hat2
            have hLt2 := (hLt.keepNe hg2 (Nat.le_refl _) (fun a2 e => by injection e with e; subst e; exact hap1)).more hg2.size
            have hLd2 := (hLd.keepNe hg2 (Nat.le_refl _) (fun a2 e => by injection e with e; subst e; rw [block_of_add]; exact hap1)).more hg2.size
            have hsz2 := hg2.size
            have hv2 : v2.ownBlock ≠ some ad.block := by
              rcases hat2 with h | h
              · rw [h]; exact hap1
              · rw [h]; intro e; injection e with e; omega
            have hadl2 : ad.block < w2.heap.size := by omega
            have hvl2 := ho2.lt
            have hbel2 := hbel.trans hb2
            clear hat2 hg2 hLt hLd hb2 hbel HO
            have hLt3 : Reads w2.drew w2.drew.heap.size (some ad) a (vn .i64 (left.take a)) := hLt2.drew
            have hLd3 : Reads w2.drew w2.drew.heap.size (some ⟨ad.block, ad.off + (a + 1), none⟩) (f' - a) (vn .i64 (left.drop (a + 1))) := by
              have h := hLd2.drew
              have e1 : ad.add (a + 1) = ⟨ad.block, ad.off + (a + 1), none⟩ := by simp [Addr.add]
              have e2 : f' + 1 - (a + 1) = f' - a := by omega
              rw [e1, e2] at h
              exact h
            clear hLt2 hLd2
            go_region_law (refine step_appCut (base := w.heap.size) (c := lc - (a + 1)) el_intN rfl (.tmp 60) (.tmp 64) rfl (by go_simp) (by go_simp) hLt3 hLd3 (vn_oneN _ _) (by unfold maxLen; omega) (by omega) (by have := hbel2.size; exact this) ?_; intro ad3 c3 w3 hL3 hb3 hg3 hat3 hc3 hm3)
            all_goals
              have hb3' : Below w.heap.size w w3 := (hbel2.drew).trans hb3
              have hO3 := (ho2.drew).kept hg3 (.inr (by intro e; rcases ho2.2 with ⟨rfl, h0⟩ | ⟨g, cap, cur, rfl, _⟩ <;> simp_all [Value.ownBlock]))
              rw [HE.out, show a + (f' - a) = f' by omega] at hL3
              rw [show a + (f' - a) = f' by omega] at hc3
              have hap3 : v2.ownBlock ≠ some ad3.block ∧ w.heap.size ≤ ad3.block := by
                rcases hat3 with rfl | h
                · exact ⟨hv2, hap2⟩
                · have h1 : ad3.block = w2.heap.size := h
                  refine ⟨fun e => ?_, by have := hbel2.size; omega⟩
                  have := (hvl2 _ e).2
                  omega
              have hm3' := hm3 (by unfold maxLen; omega)
              clear hat3 hg3 ho2 hb3 hm3 hLt3 hLd3
              have hfe : Hid (a + (f' - a) = f') := by unfold Hid; omega
              go_wp2
              go_roundw
              case rel => exact ⟨k' + 1, f', b, c3, some ad3, left.eraseIdx a, out ++ [x], by omega, by go_num, by go_num, hb4, by first | rfl | rw [hfe.out] | (congr 1; omega), hc3, hm3', hL3, hO3, fun ad e => by injection e with e; subst e; exact hap3, hb3', by rw [List.length_append, hol2.out]; rfl, HST⟩
              case measure => simp [intOf]; omega
          · have hae : f' ≤ a := by omega
            obtain rfl : lc = a + 1 := by omega
            go_wp2_with (first
              | (go_at_call 65; refine (cl _ (by omega)).mono ?_; clear cl; rintro e w' ⟨rfl, rfl⟩)
              | (at_builtin; refine app1 el_intN rfl _ _ rfl rfl hO _ _ rfl rfl (by rw [List.length_map, hol2.out]; unfold maxLen; omega) (by rw [List.length_map, hol2.out]; omega) hbel.size ?_; clear hO; intro v2 w2 ho2 hb2 hg2 hat2))
            rw [HO.out] at ho2
            change wr.grownBy w2 u7.ownBlock at hg2
            change v2.ownBlock = u7.ownBlock ∨ v2.ownBlock = some (wr.heap.size + 1) at hat2
            have hLt2 := (hLt.keepNe hg2 (Nat.le_refl _) (fun a2 e => by injection e with e; subst e; exact hap1)).more hg2.size
            have hLd2 := (hLd.keepNe hg2 (Nat.le_refl _) (fun a2 e => by injection e with e; subst e; rw [block_of_add]; exact hap1)).more hg2.size
            have hsz2 := hg2.size
            have hv2 : v2.ownBlock ≠ some ad.block := by
              rcases hat2 with h | h
              · rw [h]; exact hap1
              · rw [h]; intro e; injection e with e; omega
            have hadl2 : ad.block < w2.heap.size := by omega
            have hvl2 := ho2.lt
            have hbel2 := hbel.trans hb2
            clear hat2 hg2 hLt hLd hb2 hbel HO
            have hLt3 : Reads w2.drew w2.drew.heap.size (some ad) a (vn .i64 (left.take a)) := hLt2.drew
            have hLd3 : Reads w2.drew w2.drew.heap.size (some ad) (f' - a) (vn .i64 (left.drop (a + 1))) := by
              have h := hLd2.drew
              have e2 : f' + 1 - (a + 1) = 0 := by omega
              have e3 : f' - a = 0 := by omega
              rw [e2] at h
              rw [e3]
              exact ⟨h.len, fun h0 => absurd h0 (by omega)⟩
            clear hLt2 hLd2
            go_region_law (refine step_appCut (base := w.heap.size) (c := 0) el_intN rfl (.tmp 60) (.tmp 64) rfl (by go_simp) (by go_simp) hLt3 hLd3 (vn_oneN _ _) (by unfold maxLen; omega) (by omega) (by have := hbel2.size; exact this) ?_; intro ad3 c3 w3 hL3 hb3 hg3 hat3 hc3 hm3)
            all_goals
              have hb3' : Below w.heap.size w w3 := (hbel2.drew).trans hb3
              have hO3 := (ho2.drew).kept hg3 (.inr (by intro e; rcases ho2.2 with ⟨rfl, h0⟩ | ⟨g, cap, cur, rfl, _⟩ <;> simp_all [Value.ownBlock]))
              rw [HE.out, show a + (f' - a) = f' by omega] at hL3
              rw [show a + (f' - a) = f' by omega] at hc3
              have hap3 : v2.ownBlock ≠ some ad3.block ∧ w.heap.size ≤ ad3.block := by
                rcases hat3 with rfl | h
                · exact ⟨hv2, hap2⟩
                · have h1 : ad3.block = w2.heap.size := h
                  refine ⟨fun e => ?_, by have := hbel2.size; omega⟩
                  have := (hvl2 _ e).2
                  omega
              have hm3' := hm3 (by unfold maxLen; omega)
              clear hat3 hg3 ho2 hb3 hm3 hLt3 hLd3
              have hfe : Hid (a + (f' - a) = f') := by unfold Hid; omega
              go_wp2
              go_roundw
              case rel => exact ⟨k' + 1, f', b, c3, some ad3, left.eraseIdx a, out ++ [x], by omega, by go_num, by go_num, hb4, by first | rfl | rw [hfe.out] | (congr 1; omega), hc3, hm3', hL3, hO3, fun ad e => by injection e with e; subst e; exact hap3, hb3', by rw [List.length_append, hol2.out]; rfl, HST⟩
              case measure => simp [intOf]; omega
        · obtain rfl : f = 0 := by omega
          obtain rfl : k' = k := by omega
          have hun := hst.out.2
          rw [show unL 0 left r = [] by rfl, List.append_nil] at hun
          obtain ⟨OA, oc, oe⟩ := hO.form
          rw [List.length_map, hol] at oe
          subst oe
          rw [hun] at hO
          clear hst hun hol
          go_wp2
          go_ret2
          exact ⟨hbel, _, _, rfl, hO⟩
end Go.Proofs.Ytmepiiheidmbgaa

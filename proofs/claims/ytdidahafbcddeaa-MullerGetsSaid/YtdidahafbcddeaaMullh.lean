/-
  muller.Get walked.
-/
import Derived.Test.YtdidahafbcddeaaMullg
set_option linter.unusedVariables false
namespace Go.Proofs.Ytdidahafbcddeaa
open Go.RowKit

theorem vb_oneM (l : List Bool) : ∀ u ∈ vb l, u.oneCell' = true := by
  intro u hu
  obtain ⟨x, _, rfl⟩ := List.mem_map.1 hu
  rfl
theorem Own.atLeast {w : World} {base n c : Nat} {E : TypeId} {ad : Addr} {xs : List Value} (h : Own w base E (.slice (some ad) n c) xs) : base ≤ ad.block ∧ ad.block < w.heap.size := Own.lt h ad.block rfl
theorem prodU_pos (r m : Nat) : 0 < (prodU r (2 ^ m)).length := by
  have h : 0 ∈ prodU r (2 ^ m) := by
    unfold prodU
    refine List.mem_flatMap.2 ⟨0, by simp, List.mem_filter.2 ⟨List.mem_range.2 (Nat.pow_pos (by omega)), by decide⟩⟩
  exact List.length_pos_of_mem h
def PostG (w : World) (dt : List Bool) (e : Ending) (w' : World) : Prop := ∃ A n c, e = .returned (.tuple #[.slice A n c, .int .i64 0]) ∧ Own w' w.heap.size 4 (.slice A n c) (vb dt) ∧ Below w.heap.size w w'
set_option maxRecDepth 100000 in
set_option maxHeartbeats 3200000 in
theorem mul_Get (r m M n : Nat) (A : Option Addr) (c : Nat) (l0 : List Bool) (ps : List Nat) (w : World) (h : Reads w w.heap.size A M (vb l0)) (hm : m ≤ 4) (hr : r ≤ m) (hps : Hid (prodU r (2 ^ m) = ps)) (hM : Hid (2 ^ m = M)) (hn : Hid (ps.length = n)) :
    Calls Try.prog 8 #[.int .i64 (r : Int), .int .i64 (m : Int), .slice A M c] w (PostG w (stS ps r M l0 (r + 1)).2) := by
  have HL0 := Lib.hid h.bool_len
  have hn80 : n ≤ 80 := by rw [← hn.out, ← hps.out]; exact prodU_len r m hm hr
  have hn1 : 0 < n := by rw [← hn.out, ← hps.out]; exact prodU_pos r m
  have hM2 : M ≤ 16 := by rw [← hM.out]; exact Nat.pow_le_pow_right (n := 2) (by omega) hm
  have hM1 : 0 < M := by rw [← hM.out]; exact Nat.pow_pos (by omega)
  have ew : wrap64 ((2 : Int) ^ m) = (M : Int) := by rw [wrap_pow m (by omega), hM.out]
  have HPL : Hid (∀ p ∈ ps, p < 16) := fun p hp => by
    rw [← hps.out] at hp
    have := prodU_lt r (2 ^ m) p hp
    rw [hM.out] at this; omega
  have cw := fun W => mul_wrong (r : Int) (m : Int) W
  have hok : okM (r : Int) (m : Int) = true := by
    unfold okM
    simp
    omega
  rw [hok, if_pos rfl] at cw
  have cc := fun (W : World) (hW : Below w.heap.size w W) => clone_bools A M c (vb l0) W ((h.below hW).more hW.size) (vb_oneM l0) (by omega)
  have cp := fun W => mul_products r m W hm hr
  rw [hps.out] at cp
  have tM : ((M : Int) != (M : Int)) = false := by simp
  clear hok
  go_enter Try.func8, Try.ntmps8
  go_wp2_with (first
    | (go_at_call 23; refine (cw _).mono ?_; clear cw; rintro e w' ⟨rfl, rfl⟩)
    | (go_at_call 24; refine (cc _ (Below.refl _ _)).mono ?_; clear cc; rintro e w1 ⟨A1, n1, k1, rfl, ho1, hb1⟩; obtain rfl : M = n1 := (by rw [← ho1.reads.bool_len]; exact HL0.out.symm))
    | (go_at_call 25; refine (cp _).mono ?_; clear cp; rintro e w2 ⟨A2, n2, k2, rfl, ho2, hb2⟩; obtain rfl : n = n2 := (by rw [← ho2.reads.nat_len]; exact hn.out.symm))
    | (at_make; refine mkN el_clone_bools rfl _ _ rfl w2.heap.size n rfl rfl rfl rfl (by omega) (by unfold maxLen; omega) (Nat.le_refl _) ?_; intro w3 ho3 hb3 hs3))
  have hrep : List.replicate n (Value.bool false) = vb (List.replicate n false) := by simp [vb]
  rw [hrep] at ho3
  obtain ⟨adl, rfl, _⟩ := ho1.reads.cells hM1
  obtain ⟨adp, rfl, _⟩ := ho2.reads.cells hn1
  have q1 := ho1.atLeast
  have q2 := ho2.atLeast
  have q3 := hb2.size
  have q4 := hb3.size
  have hgs : GS w w3 adl M k1 l0 adp n ps w2.heap.size (List.replicate ps.length false) := by
    refine ⟨(ho1.below hb2 (Nat.le_refl _)).below hb3 (Nat.le_refl _), (ho2.reads.below hb3).more hb3.size, ?_, (hb1.trans (hb2.mono hb1.size)).trans (hb3.mono (Nat.le_trans hb1.size hb2.size)), by omega, by omega, by omega⟩
    rw [hn.out]
    exact ho3.low (Nat.le_trans hb1.size hb2.size)
  have HGS := Lib.hid hgs
  obtain ⟨gd, hgd⟩ : ∃ gd, gd = w2.heap.size := ⟨_, rfl⟩
  rw [← hgd] at HGS ⊢
  clear hrep ho1 ho2 ho3 hb1 hb2 hb3 hs3 q1 q2 q3 q4 hgs hgd
  go_loopw [11] (fun dv wr => ∃ t : Nat, t ≤ r + 1 ∧ dv = .int .i64 ((r : Int) - (t : Int)) ∧ GS w wr adl M k1 (stS ps r M l0 t).1 adp n ps gd (stS ps r M l0 t).2) (fun dv _ => (intOf dv + 1).toNat)
  case atStart => exact ⟨0, by omega, by simp, HGS.out⟩
  case round =>
    obtain ⟨t, ht, rfl, hgs⟩ := hrel
    clear HGS
    obtain ⟨hsl, hsd⟩ := stS_len (ps := ps) (r := r) (M := M) HL0.out t
    by_cases hlt : t ≤ r
    · obtain ⟨d, hd⟩ : ∃ d, r - t = d := ⟨_, rfl⟩
      have hdi : (r : Int) - (t : Int) = (d : Int) := by omega
      have hdg := stS_deg (ps := ps) (r := r) (M := M) (l0 := l0) t ht
      have hnx : stS ps r M l0 (t + 1) = (addA (stS ps r M l0 t).1 (alS ps M d (stS ps r M l0 t).1) ps M ps.length, midD (stS ps r M l0 t).2 (alS ps M d (stS ps r M l0 t).1) ps.length ps.length) := by rw [stS, hd]
      rw [hdi]
      obtain ⟨lt, hlt'⟩ : ∃ lt, (stS ps r M l0 t).1 = lt := ⟨_, rfl⟩
      obtain ⟨dt, hdt⟩ : ∃ dt, (stS ps r M l0 t).2 = dt := ⟨_, rfl⟩
      rw [hlt'] at hsl hgs hnx
      rw [hdt] at hsd hgs hnx hdg
      obtain ⟨al, hal⟩ : ∃ al, alS ps M d lt = al := ⟨_, rfl⟩
      rw [hal] at hnx
      have HNX := Lib.hid hnx
      have HAL := Lib.hid hal
      have HSL := Lib.hid hsl
      have HSD := Lib.hid (hsd.trans hn.out)
      have HDG := Lib.hid hdg
      have HDI := Lib.hid hdi
      have hdrt : Hid (d + t = r) := by unfold Hid; omega
      have HGS := Lib.hid hgs
      have d0 : (0 : Int) ≤ (d : Int) := by omega
      have hd4 : (d : Int) ≤ 4 := by omega
      clear hnx hal hsl hsd hdg hdi hd hlt' hdt hgs
      go_wp2
      go_loopw [42] (fun iv wr => ∃ i : Nat, i ≤ n ∧ iv = .int .i64 (i : Int) ∧ GS w wr adl M k1 lt adp n ps gd (midD dt al n i)) (fun iv _ => n - (intOf iv).toNat)
      case atStart => exact ⟨0, by omega, rfl, by rw [midD_zero dt al n HSD.out]; exact HGS.out⟩
      case round =>
        obtain ⟨i, hi, rfl, hgs⟩ := hrel
        clear HGS
        by_cases hlt2 : i < n
        · obtain ⟨p, hp⟩ : ∃ p, ps[i]? = some p := ⟨_, List.getElem?_eq_getElem (by rw [hn.out]; exact hlt2)⟩
          have hp16 := HPL.out p (mem_at hp)
          obtain ⟨adq, uq, e, _, hxq, hcq⟩ := hgs.2.1.at_ hlt2
          injection e with e
          subst e
          rw [List.getElem?_map, hp] at hxq
          injection hxq with hxq
          subst hxq
          obtain ⟨y, hy⟩ : ∃ y, dt[i]? = some y := ⟨_, List.getElem?_eq_getElem (by rw [HSD.out]; exact hlt2)⟩
          have hyD : dt.getD i false = y := by rw [List.getD_eq_getElem?_getD, hy]; rfl
          have haD : al.getD i false = (decide (degU p = d) && voteB lt p M) := by rw [List.getD_eq_getElem?_getD, ← HAL.out, alS_at _ _ _ hp]; rfl
          have hcd : wr.cell? ⟨gd, i, none⟩ = some (.bool y) := by
            rw [← add_row]
            refine (hgs.2.2.1.cellAt hlt2).trans ?_
            rw [List.getElem?_map, midD_at dt al i hlt2, hyD]
            simp
          have hfd : wr.frozen? ⟨gd, i, none⟩ = false := by rw [← add_row]; exact hgs.2.2.1.frozenAt i
          have i0 : (0 : Int) ≤ (i : Int) := by omega
          have i1 : (i : Int) < (n : Int) := by omega
          have hgdl := (hgs.2.2.1.atLeast).2
          cases y
          · obtain ⟨g, hg⟩ : ∃ g, degU p = g := ⟨_, rfl⟩
            have cd := fun W => mul_degree p W hp16
            rw [hg] at cd haD
            by_cases hgd2 : g = d
            · subst hgd2
              obtain ⟨b, hb⟩ : ∃ b, voteB lt p M = b := ⟨_, rfl⟩
              have hv : (dt.getD i false || al.getD i false) = b := by rw [hyD, haD, hb]; simp
              have HV := Lib.hid hv
              have cv := mul_vote (some adl) M k1 p lt wr hgs.1.reads hM2 hp16 b hb
              have tg : ((g : Int) == (g : Int)) = true := by simp
              have HG := Lib.hid hgs
              clear hp hy hyD haD hg hb hv hgs
              go_wp2_with (first
                | (go_at_call 26; refine (cd _).mono ?_; clear cd; rintro e w' ⟨rfl, rfl⟩)
                | (go_at_call 27; refine cv.mono ?_; clear cv; rintro e w4 ⟨rfl, hb4⟩; have hcd4 := (hb4.cell (p := ⟨gd, i, none⟩) hgdl).trans hcd; have hfd4 := (hb4.frozen (p := ⟨gd, i, none⟩) hgdl).trans hfd; clear hcd hfd hcq))
              have hgs5 := (HG.out.below hb4).setD i b
              rw [midD_next dt al n i b HV.out] at hgs5
              go_roundw
              case rel => exact ⟨i + 1, by omega, by go_num, hgs5⟩
              case measure => simp [intOf] <;> omega
            · have tg : ((g : Int) == (d : Int)) = false := by simp; omega
              have hv : (dt.getD i false || al.getD i false) = false := by rw [hyD, haD]; simp [hgd2]
              have HV := Lib.hid hv
              have hgs5 := hgs.setD i false
              rw [midD_next dt al n i false HV.out] at hgs5
              clear hp hy hyD haD hg hv hgs hgd2
              go_wp2_with (go_at_call 26; refine (cd _).mono ?_; clear cd; rintro e w' ⟨rfl, rfl⟩)
              go_roundw
              case rel => exact ⟨i + 1, by omega, by go_num, hgs5⟩
              case measure => simp [intOf] <;> omega
          · have hv : (dt.getD i false || al.getD i false) = true := by rw [hyD]; simp
            have hgs5 := hgs.setD i true
            rw [midD_next dt al n i true hv] at hgs5
            clear hp hy hyD haD hv hgs
            go_wp2
            go_roundw
            case rel => exact ⟨i + 1, by omega, by go_num, hgs5⟩
            case measure => simp [intOf] <;> omega
        · obtain rfl : n = i := by omega
          have HG := Lib.hid hgs
          clear hgs
          go_wp2
          go_loopw [68] (fun iv wr => ∃ i : Nat, i ≤ n ∧ iv = .int .i64 (i : Int) ∧ GS w wr adl M k1 (addA lt al ps M i) adp n ps gd (midD dt al n n)) (fun iv _ => n - (intOf iv).toNat)
          case atStart => exact ⟨0, by omega, rfl, by rw [addA_zero lt al ps M HSL.out]; exact HG.out⟩
          case round =>
            obtain ⟨i, hi, rfl, hgs⟩ := hrel
            clear HG
            by_cases hlt2 : i < n
            · obtain ⟨p, hp⟩ : ∃ p, ps[i]? = some p := ⟨_, List.getElem?_eq_getElem (by rw [hn.out]; exact hlt2)⟩
              have hp16 := HPL.out p (mem_at hp)
              obtain ⟨adq, uq, e, _, hxq, hcq⟩ := hgs.2.1.at_ hlt2
              injection e with e
              subst e
              rw [List.getElem?_map, hp] at hxq
              injection hxq with hxq
              subst hxq
              obtain ⟨b, hb⟩ : ∃ b, al[i]? = some b := ⟨_, List.getElem?_eq_getElem (by rw [← HAL.out, alS_len, hn.out]; exact hlt2)⟩
              have hbv : b = (decide (degU p = d) && voteB lt p M) := by
                rw [← HAL.out, alS_at _ _ _ hp] at hb
                injection hb with hb
                exact hb.symm
              have hNA := addA_next (l := lt) (M := M) hb hp
              have i0 : (0 : Int) ≤ (i : Int) := by omega
              have i1 : (i : Int) < (n : Int) := by omega
              obtain ⟨g, hg⟩ : ∃ g, degU p = g := ⟨_, rfl⟩
              have cd := fun W => mul_degree p W hp16
              rw [hg] at cd hbv
              by_cases hgd2 : g = d
              · subst hgd2
                have hdf : dt.getD i false = false := by
                  cases hq : dt.getD i false with
                  | false => rfl
                  | true =>
                    have h1 := HDG.out i p hp hq
                    have h2 := hdrt.out
                    rw [hg] at h1
                    omega
                have hcd : wr.cell? ⟨gd, i, none⟩ = some (.bool b) := by
                  rw [← add_row]
                  refine (hgs.2.2.1.cellAt hlt2).trans ?_
                  rw [List.getElem?_map, midD_at dt al n hlt2, hdf, List.getD_eq_getElem?_getD, hb]
                  simp [hlt2]
                have tg : ((g : Int) == (g : Int)) = true := by simp
                clear hbv hg hdf
                cases b
                · simp only [Bool.false_eq_true, if_false] at hNA
                  rw [← hNA] at hgs
                  clear hp hb hNA
                  go_wp2_with (go_at_call 26; refine (cd _).mono ?_; clear cd; rintro e w' ⟨rfl, rfl⟩)
                  go_roundw
                  case rel => exact ⟨i + 1, by omega, by go_num, hgs⟩
                  case measure => simp [intOf] <;> omega
                · rw [if_pos rfl] at hNA
                  have ca := mul_add adl M k1 p (addA lt al ps M i) wr hgs.1 hp16 hM2 hgs.2.2.2.1.size
                  rw [← hNA] at ca
                  have HG := Lib.hid hgs
                  clear hp hb hNA hgs
                  go_wp2_with (first
                    | (go_at_call 26; refine (cd _).mono ?_; clear cd; rintro e w' ⟨rfl, rfl⟩)
                    | (go_at_call 28; refine ca.mono ?_; clear ca; rintro e w4 ⟨rfl, ho4, hg4⟩))
                  have hgs5 := HG.out.setL ho4 hg4
                  go_roundw
                  case rel => exact ⟨i + 1, by omega, by go_num, hgs5⟩
                  case measure => simp [intOf] <;> omega
              · have tg : ((g : Int) == (d : Int)) = false := by simp; omega
                have hbf : b = false := by rw [hbv]; simp [hgd2]
                subst hbf
                simp only [Bool.false_eq_true, if_false] at hNA
                rw [← hNA] at hgs
                clear hp hb hNA hbv hg hgd2
                go_wp2_with (go_at_call 26; refine (cd _).mono ?_; clear cd; rintro e w' ⟨rfl, rfl⟩)
                go_roundw
                case rel => exact ⟨i + 1, by omega, by go_num, hgs⟩
                case measure => simp [intOf] <;> omega
            · obtain rfl : n = i := by omega
              have HE : Hid (GS w wr adl M k1 (stS ps r M l0 (t + 1)).1 adp n ps gd (stS ps r M l0 (t + 1)).2) := by
                unfold Hid
                rw [HNX.out, hn.out]
                exact hgs
              clear hgs
              go_wp2
              go_roundw
              case rel => exact ⟨t + 1, by omega, by have := hdrt.out; refine congrArg (Value.int .i64) ?_; omega, HE.out⟩
              case measure => simp [intOf] <;> omega
    · obtain rfl : t = r + 1 := by omega
      have hneg : ¬ (0 : Int) ≤ (r : Int) - ((r + 1 : Nat) : Int) := by omega
      have hneg2 : (r : Int) - ((r + 1 : Nat) : Int) = -1 := by omega
      rw [hneg2]
      clear hneg hneg2
      go_wp2
      go_ret2
      exact ⟨_, n, n, rfl, hgs.2.2.1, hgs.2.2.2.1⟩
end Go.Proofs.Ytdidahafbcddeaa

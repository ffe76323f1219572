/-
  TopDiscs: the walk.
-/
import Derived.Test.YtbhhijdpmpcdnaaPty
import Derived.Test.YtbhhijdpmpcdnaaPds
import Derived.Test.YtbhhijdpmpcdnaaArs
set_option linter.unusedVariables false
namespace Go.Proofs.Ytbhhijdpmpcdnaa
open Go.RowKit

set_option maxHeartbeats 1600000 in
theorem discs_err (mode d : Int) (A : Option Addr) (n c : Nat) (w : World) (h : ¬ (1 ≤ mode ∧ mode ≤ 3 ∧ 3 ≤ d ∧ d ≤ 6 ∧ n ≤ 100)) :
    Calls Try.prog 6 #[.int .i64 mode, .int .i64 d, .slice A n c] w (LawTrue w) := by
  have c1 := pair_Play_no mode d A n c w h
  have c2 := fun W => top_may mode d A n c W false (by simp only [Hid, mayB, decide_eq_false_iff_not]; exact h)
  clear h
  go_enter Try.func6, Try.ntmps6
  go_wp2_with (first
    | (go_at_call 7; refine c1.mono ?_; clear c1; rintro e w1 ⟨z, rfl, hz, hb1⟩)
    | (go_at_call 12; refine (c2 _).mono ?_; clear c2; rintro e w' ⟨rfl, rfl⟩))
  go_ret
  exact ⟨by first | rfl | rw [hz] | simp_all, hb1.alloc hb1.size _⟩
theorem done_cut {O : List (Nat × Nat)} {k : Nat} (h : k < O.length) : O[k]? = some ((O.getD k (0, 0)).1, (O.getD k (0, 0)).2) := by
  rw [List.getD, List.getElem?_eq_getElem h]; rfl
set_option maxRecDepth 100000 in
set_option maxHeartbeats 8000000 in
theorem discs_good (mode d : Nat) (A : Option Addr) (n c : Nat) (l : List StS) (w : World) (h : ReadsK w w.heap.size 4 A n (l.map stC)) (hl : ∀ m ∈ l, m.val < 256) (m1 : 1 ≤ mode) (m3 : mode ≤ 3) (h3 : 3 ≤ d) (h6 : d ≤ 6) (hn : n ≤ 100) :
    Calls Try.prog 6 #[.int .i64 (mode : Int), .int .i64 (d : Int), .slice A n c] w (LawTrue w) := by
  have c1 := pair_Play mode d A n c l w h hl m1 m3 h3 h6 hn
  have c2 := fun W => top_may (mode : Int) (d : Int) A n c W true (by simp only [Hid, mayB, decide_eq_true_eq]; omega)
  have hln : l.length = n := by have := h.len; rwa [List.length_map] at this
  have same := pair_same h3 h6 mode l n
  have same2 := pair_same h3 h6 mode (flS l n) (flS l n).length
  obtain ⟨O, hO⟩ : ∃ q, (playG (mvB d) mode d startB l n).outs = q := ⟨_, rfl⟩
  have hOl : O.length = n := by rw [← hO]; exact (PrOk.play (mvB d) hl mode d startB n (by omega)).ol
  obtain ⟨rz, ro⟩ := relZ_play mode d hl O (by rw [hln]; exact hO) n (by omega)
  have hfl := flS_len l n
  have hfm : ∀ m ∈ flS l n, m.val < 256 := fun m hm => hl m (flS_mem n m hm)
  have hwl := wnS_len l O n
  have c3 := fun (W : World) (A2 : Option Addr) (q : Nat) (hr : ReadsK W W.heap.size 4 A2 (flS l n).length ((flS l n).map stC)) => pair_Play mode d A2 (flS l n).length q (flS l n) W hr hfm m1 m3 h3 h6 (by omega)
  have hto1 : toldF mode (playG (mvP d) mode d startP l n) = toldF mode (playG (mvB d) mode d startB l n) := by unfold toldF tellG; rw [same.main, same.ws, same.k, same.told]
  have hto2 : toldF mode (playG (mvP d) mode d startP (flS l n) (flS l n).length) = toldF mode (playG (mvB d) mode d startB l n) := by
    rw [← told_same rz]; unfold toldF tellG; rw [same2.main, same2.ws, same2.k, same2.told]
  rw [same.outs, same.main, hO, hto1] at c1
  rw [same2.outs, same2.main, ro, rz.main, hto2] at c3
  obtain ⟨told, htold⟩ : ∃ q, toldF mode (playG (mvB d) mode d startB l n) = q := ⟨_, rfl⟩
  obtain ⟨mn, hmn⟩ : ∃ q, (playG (mvB d) mode d startB l n).main = q := ⟨_, rfl⟩
  rw [htold, hmn] at c1 c3
  obtain ⟨m2, hm2⟩ : ∃ q, (flS l n).length = q := ⟨_, rfl⟩
  rw [hm2] at c3 hwl hfl
  have HR := Lib.hid h
  have HL := Lib.hid hl
  have HLN := Lib.hid hln
  have HOL := Lib.hid hOl
  have HM2 := Lib.hid hm2
  have HWL := Lib.hid hwl
  have C3 := Lib.hid c3
  have t0 : ((n : Int) != (n : Int)) = false := by simp
  have q1 : ((told : Int) == (told : Int)) = true := by simp
  have q2 : ((mn : Int) == (mn : Int)) = true := by simp
  clear h hl hln hO hOl hmn htold same same2 rz ro hfm hwl hto1 hto2 hm2 c3
  go_enter Try.func6, Try.ntmps6
  go_wp2_with (first
    | (go_at_call 7; refine c1.mono ?_; clear c1; rintro e w1 ⟨A1, kc, rfl, ho1, hb1⟩
       have hbA : BoxV (w1.alloc (.cells #[.slice A1 n kc, .int .i64 (told : Int), .int .i64 (mn : Int)] 25)) w1.heap.size 25 [.slice A1 n kc, .int .i64 (told : Int), .int .i64 (mn : Int)] := BoxV.new w1 _ _
       have p0 := hbA.cell (j := 0) rfl
       have HO1 := Lib.hid ho1
       have HB1 := Lib.hid hb1
       have HBA := Lib.hid hbA
       clear ho1 hb1 hbA)
    | (go_at_call 12; refine (c2 _).mono ?_; clear c2; rintro e w' ⟨rfl, rfl⟩))
  clear p0
  go_loopw [9, 10, 40] (fun lv wv iv wr => ∃ k : Nat, k ≤ n ∧ iv = .int .i64 (k : Int) ∧ OwnK wr w.heap.size 35 4 lv ((flS l k).map stC) ∧ OwnK wr w.heap.size 37 2 wv ((wnS l O k).map dnC) ∧ (wv.ownBlock = none ∨ wv.ownBlock ≠ (Value.slice A1 n kc).ownBlock) ∧ BoxV wr w1.heap.size 25 [.slice A1 n kc, .int .i64 (told : Int), .int .i64 (mn : Int)] ∧ OwnK wr w.heap.size 37 2 (.slice A1 n kc) (O.map dnC) ∧ Below w.heap.size w wr) (fun _ _ iv _ => n - (intOf iv).toNat)
  case atStart => exact ⟨0, Nat.zero_le _, rfl, OwnK.nil _ _ _ _, OwnK.nil _ _ _ _, .inl rfl, HBA.out, HO1.out.alloc _, HB1.out.alloc HB1.out.size _⟩
  case round =>
    obtain ⟨k, hk, rfl, hlv, hwv, hne, hbx, hdn, hbel⟩ := hrel
    obtain ⟨wo, rfl⟩ : ∃ x, x = wr := ⟨_, rfl⟩
    obtain ⟨lv, rfl⟩ : ∃ x, x = u9 := ⟨_, rfl⟩
    obtain ⟨wv, rfl⟩ : ∃ x, x = u10 := ⟨_, rfl⟩
    clear HO1 HBA
    by_cases hlt : k < n
    · obtain ⟨ad, xs, rfl, hadb, hx, _, hc⟩ := (HR.out.below hbel).at_ hlt
      rw [List.getElem?_map] at hx
      obtain ⟨⟨kind, site, block, v⟩, hm, rfl⟩ := Option.map_eq_some_iff.1 hx
      have d0 := hc 0 _ rfl
      have d1 := hc 1 _ rfl
      have d2 := hc 2 _ rfl
      have d3 := hc 3 _ rfl
      rw [Nat.add_zero] at d0
      rw [add_offP _ _ _ (by decide)] at d1 d2 d3
      have hO := done_cut (O := O) (k := k) (by have := HOL.out; omega)
      have hfn := flS_next hm
      have hwn := wnS_next (O := O) hm
      have hB1 : Below wo.heap.size wo (wo.alloc (.cells #[.int .i64 kind, .int .i64 site, .int .i64 block, .int .u8 (v : Int)] 35)) := (Below.refl _ wo).alloc (Nat.le_refl _) _
      have hlvA := hlv.below hB1 (Nat.le_refl _)
      have hwvA := hwv.below hB1 (Nat.le_refl _)
      have hbxA := hbx.alloc (.cells #[.int .i64 kind, .int .i64 site, .int .i64 block, .int .u8 (v : Int)] 35)
      have hdnA := hdn.below hB1 (Nat.le_refl _)
      have hbeA := hbel.alloc (by have := hbel.size; omega) (.cells #[.int .i64 kind, .int .i64 site, .int .i64 block, .int .u8 (v : Int)] 35)
      obtain ⟨ad1, rfl, e0, e1⟩ := dn_cells hdnA hlt hO
      have b0 := hbxA.cell (j := 0) rfl
      have hbs : BoxV (wo.alloc (.cells #[.int .i64 kind, .int .i64 site, .int .i64 block, .int .u8 (v : Int)] 35)) wo.heap.size 35 [.int .i64 kind, .int .i64 site, .int .i64 block, .int .u8 (v : Int)] := BoxV.new wo _ _
      have x0 := hbs.cell (j := 0) rfl; have x1 := hbs.cell (j := 1) rfl; have x2 := hbs.cell (j := 2) rfl; have x3 := hbs.cell (j := 3) rfl
      have i0 : (0 : Int) ≤ (k : Int) := by omega
      have i1 : (k : Int) < (n : Int) := by omega
      have hfk := flS_len l k
      have hwk := wnS_len l O k
      clear hx hc hlv hwv hbx hdn hbel hB1 hm
      by_cases hkp : kind ≠ 7 ∧ kind ≠ 8
      · have hks : keepS ⟨kind, site, block, v⟩ = true := by simp [keepS, hkp]
        rw [if_pos hks] at hfn hwn
        have t7 : (kind != 7) = true := by simp [hkp.1]
        have t8 : (kind != 8) = true := by simp [hkp.2]
        have HFN := Lib.hid hfn
        have HWN := Lib.hid hwn
        have HFK := Lib.hid hfk
        have HWK := Lib.hid hwk
        obtain ⟨oe, hoe⟩ : ∃ q, (O.getD k (0, 0)).1 = q := ⟨_, rfl⟩
        obtain ⟨ov, hov⟩ : ∃ q, (O.getD k (0, 0)).2 = q := ⟨_, rfl⟩
        have HO2 := Lib.hid hO
        have HE1 := Lib.hid hoe
        have HE2 := Lib.hid hov
        rw [hoe] at e0
        rw [hov] at e1
        have HOE : Hid (O.getD k (0, 0) = (oe, ov)) := by unfold Hid; rw [← hoe, ← hov]
        clear hfn hwn hkp hks hO hbs hfk hwk hoe hov
        go_wp2_with (first
          | (at_builtin; refine app1K el_stepP rfl _ _ rfl rfl hlvA #[.int .i64 kind, .int .i64 site, .int .i64 block, .int .u8 (v : Int)] _ (by first | rfl | (go_simp; done) | (go_simp; rfl)) rfl (by simp [Value.oneCell']) (by have := HFK.out; simp; unfold maxLen; omega) (by have := HFK.out; simp; omega) (by have := hbeA.size; simp at this ⊢; omega) ?_; intro v5 w5 ho5 hb5 hg5 hat5
             have hdn5 := hdnA.ch (Ch.of_grown hg5) (fun b hb e => by obtain ⟨q1, e1⟩ := hdnA.ty hb; obtain ⟨q2, e2⟩ := hlvA.ty e; exact ty_ne e1 e2 (by decide) rfl)
             have hwv5 := hwvA.ch (Ch.of_grown hg5) (fun b hb e => by obtain ⟨q1, e1⟩ := hwvA.ty hb; obtain ⟨q2, e2⟩ := hlvA.ty e; exact ty_ne e1 e2 (by decide) rfl)
             have hbx5 := hbxA.ch (Ch.of_grown hg5) (fun e => hlvA.notBox hbxA (by decide) e)
             have hbe5 := hbeA.trans hb5
             have b05 := hbx5.cell (j := 0) rfl
             obtain ⟨ad2, had, e05, e15⟩ := dn_cells hdn5 hlt HO2.out
             injection had with had
             subst had
             rw [HE1.out] at e05
             rw [HE2.out] at e15
             clear hlvA hdnA hwvA hbxA hbeA x0 x1 x2 x3 b0 e0 e1)
          | (at_builtin; refine app1K el_doneP rfl _ _ rfl rfl hwv5 #[.int .i64 (oe : Int), .int .u8 (ov : Int)] _ (by first | rfl | (go_simp; done) | (go_simp; rfl)) rfl (by simp [Value.oneCell']) (by have := HFK.out; have := HWK.out; simp; unfold maxLen; omega) (by have := HFK.out; have := HWK.out; simp; omega) (by have := hbe5.size; omega) ?_; intro v6 w6 ho6 hb6 hg6 hat6))
        rw [dn_snocP] at ho6
        have hg6' : w5.grownBy w6 wv.ownBlock := hg6
        have hat6' : v6.ownBlock = wv.ownBlock ∨ v6.ownBlock = some (w5.heap.size + 1) := hat6
        clear hg6 hat6
        have ho5' : OwnK w5 w.heap.size 35 4 v5 ((flS l k ++ [(⟨kind, site, block, v⟩ : StS)]).map stC) := by
          rw [List.map_append]; exact ho5
        have hlv6 := ho5'.ch (Ch.of_grown hg6') (fun b hb e => by obtain ⟨q1, e1⟩ := ho5'.ty hb; obtain ⟨q2, e2⟩ := hwv5.ty e; exact ty_ne e1 e2 (by decide) rfl)
        have hdn6 := hdn5.ch (Ch.of_grown hg6') (fun b hb e => by
          rcases hne with h | h
          · rw [h] at e; cases e
          · exact h (e.trans hb.symm))
        have hbx6 := hbx5.ch (Ch.of_grown hg6') (fun e => hwv5.notBox hbx5 (by decide) e)
        have hbe6 := hbe5.trans hb6
        have hne6 : v6.ownBlock = none ∨ v6.ownBlock ≠ (Value.slice (some ad1) n kc).ownBlock := by
          rcases hat6' with h | h
          · rw [h]; exact hne
          · right; rw [h]; intro e
            have := (hdn5.lt _ e.symm).2
            omega
        have H1 := Lib.hid hlv6; have H2 := Lib.hid ho6; have H3 := Lib.hid hne6; have H4 := Lib.hid hbx6; have H5 := Lib.hid hdn6; have H6 := Lib.hid hbe6
        clear ho5 ho5' ho6 hlv6 hdn6 hbx6 hbe6 hne6 hdn5 hwv5 hbx5 hbe5 hb5 hb6 hg5 hg6' hat5 hat6' b05 e05 e15 hne
        go_roundw
        case rel => exact ⟨k + 1, by omega, by go_num, by rw [HFN.out]; exact H1.out, by rw [HWN.out, HOE.out]; exact H2.out, H3.out, H4.out, H5.out, H6.out⟩
        case measure => simp [intOf] <;> omega
      · have hks : keepS ⟨kind, site, block, v⟩ = false := by simp only [keepS, decide_eq_false_iff_not]; exact hkp
        rw [hks] at hfn hwn
        simp only [Bool.false_eq_true, if_false] at hfn hwn
        have HFN := Lib.hid hfn
        have HWN := Lib.hid hwn
        have H1 := Lib.hid hlvA; have H2 := Lib.hid hwvA; have H3 := Lib.hid hne; have H4 := Lib.hid hbxA; have H5 := Lib.hid hdnA; have H6 := Lib.hid hbeA
        by_cases h7 : kind = 7
        · have t7 : (kind != 7) = false := by simp [h7]
          clear hfn hwn hkp hks hO hbs hfk hwk hlvA hwvA hne hbxA hdnA hbeA h7
          go_wp2
          go_roundw
          case rel => exact ⟨k + 1, by omega, by go_num, by rw [HFN.out]; exact H1.out, by rw [HWN.out]; exact H2.out, H3.out, H4.out, H5.out, H6.out⟩
          case measure => simp [intOf] <;> omega
        · have h8 : kind = 8 := by omega
          have t7 : (kind != 7) = true := by simp [h7]
          have t8 : (kind != 8) = false := by simp [h8]
          clear hfn hwn hkp hks hO hbs hfk hwk hlvA hwvA hne hbxA hdnA hbeA h7 h8
          go_wp2
          go_roundw
          case rel => exact ⟨k + 1, by omega, by go_num, by rw [HFN.out]; exact H1.out, by rw [HWN.out]; exact H2.out, H3.out, H4.out, H5.out, H6.out⟩
          case measure => simp [intOf] <;> omega
    · obtain rfl : n = k := by omega
      obtain ⟨A2, kc2, rfl⟩ : ∃ A c, lv = .slice A m2 c := by
        obtain ⟨A, c, e⟩ := hlv.form
        exact ⟨A, c, by rw [e, List.length_map, HM2.out]⟩
      obtain ⟨A3, kc3, rfl⟩ : ∃ A c, wv = .slice A m2 c := by
        obtain ⟨A, c, e⟩ := hwv.form
        exact ⟨A, c, by rw [e, List.length_map, HWL.out]⟩
      have c3 := C3.out wo A2 kc2 hlv.reads
      have HWV := Lib.hid hwv
      have HBX := Lib.hid hbx
      have HBE := Lib.hid hbel
      clear hlt hk hlv hwv hbx hdn hbel hne
      go_wp2_with (first
        | (go_at_call 7; refine c3.mono ?_; clear c3; rintro e w6 ⟨A4, kc4, rfl, ho4, hb4⟩
           have hb7 := (HBX.out.below hb4).alloc (.cells #[.slice A4 m2 kc4, .int .i64 (told : Int), .int .i64 (mn : Int)] 25)
           have a1 := hb7.cell (j := 1) rfl; have a2 := hb7.cell (j := 2) rfl
           have hb8 : BoxV (w6.alloc (.cells #[.slice A4 m2 kc4, .int .i64 (told : Int), .int .i64 (mn : Int)] 25)) w6.heap.size 25 [.slice A4 m2 kc4, .int .i64 (told : Int), .int .i64 (mn : Int)] := BoxV.new w6 _ _
           have g0 := hb8.cell (j := 0) rfl; have g1 := hb8.cell (j := 1) rfl; have g2 := hb8.cell (j := 2) rfl
           have hB6 : Below w6.heap.size w6 (w6.alloc (.cells #[.slice A4 m2 kc4, .int .i64 (told : Int), .int .i64 (mn : Int)] 25)) := (Below.refl _ _).alloc (Nat.le_refl _) _
           have cd := ref_Dones A4 A3 m2 kc4 kc3 (wnS l O n) (w6.alloc (.cells #[.slice A4 m2 kc4, .int .i64 (told : Int), .int .i64 (mn : Int)] 25)) (ho4.below hB6 (Nat.le_refl _)).reads ((HWV.out.below hb4 (Nat.le_refl _)).below hB6 (Nat.le_refl _)).reads (by omega)
           have HB6 := Lib.hid ((HBE.out.trans (hb4.mono HBE.out.size)).alloc (by have h7 := HBE.out.size; have h8 := hb4.size; omega) (.cells #[.slice A4 m2 kc4, .int .i64 (told : Int), .int .i64 (mn : Int)] 25))
           clear hb7 hb8 hB6 ho4 hb4)
        | (go_at_call 11; refine cd.mono ?_; clear cd; rintro e w7 ⟨rfl, q, rfl⟩))
      go_ret
      exact ⟨rfl, below_drewN HB6.out _⟩
end Go.Proofs.Ytbhhijdpmpcdnaa

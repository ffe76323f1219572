/-
  TopReads: where the pair is played.
-/
import Derived.Test.YtbhhijdpmpcdnaaPtw
set_option linter.unusedVariables false
namespace Go.Proofs.Ytbhhijdpmpcdnaa
open Go.RowKit

theorem make24 (w : World) : (Instr.makeSlice 33 (.int .i64 24) (.int .i64 24)).run Try.prog w = .ok (.slice (some ⟨w.heap.size, 0, none⟩) 24 24) (w.alloc (.cells (madeCells #[.int .u8 0] 24) 5)) := run_make_row' 33 5 (.int .u8 0) 1 Try.underlying33 (by kernel_rfl) rfl .i64 .i64 24 (by omega) (by omega) w
theorem made_listP (z : Value) (n : Nat) : (madeCells #[z] n).toList = List.replicate n z := by
  apply List.ext_getElem?
  intro j
  simp only [madeCells, Array.toList_map, List.getElem?_map, List.getElem?_replicate]
  by_cases hj : j < n
  · simp [hj, Nat.mod_one]
  · simp [hj]
theorem own24 {W : World} {B : Nat} (hB : B ≤ W.heap.size) : Own (W.alloc (.cells (madeCells #[.int .u8 0] 24) 5)) B 5 (.slice (some ⟨W.heap.size, 0, none⟩) 24 24) (vn .u8 (List.replicate 24 0)) := by
  have h := Own.built (E := 5) W (madeCells #[.int .u8 0] 24) 24 (by simp [madeCells]) (by unfold maxLen; omega) hB
  rw [show (madeCells #[Value.int .u8 0] 24).toList = vn .u8 (List.replicate 24 0) by rw [made_listP]; simp [vn]] at h
  exact h
theorem dn_cells {w : World} {B n c i e v : Nat} {A : Option Addr} {O : List (Nat × Nat)} (h : OwnK w B 37 2 (.slice A n c) (O.map dnC)) (hi : i < n) (hO : O[i]? = some (e, v)) :
    ∃ ad, A = some ad ∧ w.cell? (ad.add (i * 2)) = some (.int .i64 (e : Int)) ∧ w.cell? ⟨(ad.add (i * 2)).block, (ad.add (i * 2)).off + 1, none⟩ = some (.int .u8 (v : Int)) := by
  obtain ⟨ad, xs, e1, _, hx, _, hc⟩ := h.reads.at_ hi
  rw [List.getElem?_map, hO] at hx
  injection hx with hx
  subst hx
  have c0 := hc 0 _ rfl
  have c1 := hc 1 _ rfl
  rw [Nat.add_zero] at c0
  rw [add_offP _ _ _ (by decide)] at c1
  exact ⟨ad, e1, c0, c1⟩
set_option maxRecDepth 100000 in
set_option maxHeartbeats 8000000 in
theorem reads_good (mode d : Nat) (A : Option Addr) (n c : Nat) (l : List StS) (w : World) (h : ReadsK w w.heap.size 4 A n (l.map stC)) (hl : ∀ m ∈ l, m.val < 256) (m1 : 1 ≤ mode) (m3 : mode ≤ 3) (h3 : 3 ≤ d) (h6 : d ≤ 6) (hn : n ≤ 100) :
    Calls Try.prog 4 #[.int .i64 (mode : Int), .int .i64 (d : Int), .slice A n c] w (LawTrue w) := by
  have c1 := pair_Play mode d A n c l w h hl m1 m3 h3 h6 hn
  have c2 := fun W => top_may (mode : Int) (d : Int) A n c W true (by simp only [Hid, mayB, decide_eq_true_eq]; omega)
  have same := pair_same h3 h6 mode l n
  rw [same.outs, same.main] at c1
  have hln : l.length = n := by have := h.len; rwa [List.length_map] at this
  obtain ⟨told, htold⟩ : ∃ q, toldF mode (playG (mvP d) mode d startP l n) = q := ⟨_, rfl⟩
  rw [htold] at c1
  obtain ⟨O, hO⟩ : ∃ q, (playG (mvB d) mode d startB l n).outs = q := ⟨_, rfl⟩
  obtain ⟨mn, hmn⟩ : ∃ q, (playG (mvB d) mode d startB l n).main = q := ⟨_, rfl⟩
  rw [hO, hmn] at c1
  have HR := Lib.hid h
  have HL := Lib.hid hl
  have HLN := Lib.hid hln
  have HOO := Lib.hid hO
  have HMN := Lib.hid hmn
  have t0 : ((n : Int) != (n : Int)) = false := by simp
  have hmk := make24
  clear h hl hln hO hmn htold same
  go_enter Try.func4, Try.ntmps4
  go_wp2_with (first
    | (go_at_call 7; refine c1.mono ?_; clear c1; rintro e w1 ⟨A1, kc, rfl, ho1, hb1⟩
       have hbA : BoxV (w1.alloc (.cells #[.slice A1 n kc, .int .i64 (told : Int), .int .i64 (mn : Int)] 25)) w1.heap.size 25 [.slice A1 n kc, .int .i64 (told : Int), .int .i64 (mn : Int)] := BoxV.new w1 _ _
       have p0 := hbA.cell (j := 0) rfl
       have HO1 := Lib.hid ho1
       have HB1 := Lib.hid hb1
       clear ho1 hb1 hbA)
    | (go_at_call 12; refine (c2 _).mono ?_; clear c2; rintro e w' ⟨rfl, rfl⟩))
  clear hmk p0
  go_loopw [39] (fun iv wr => ∃ k : Nat, k ≤ n ∧ iv = .int .i64 (k : Int) ∧ (playG (mvB d) mode d startB l k).main = 0 ∧ Own wr w.heap.size 5 (.slice (some ⟨w1.heap.size + 1, 0, none⟩) 24 24) (vn .u8 (playG (mvB d) mode d startB l k).a0.1) ∧ BoxV wr w1.heap.size 25 [.slice A1 n kc, .int .i64 (told : Int), .int .i64 (mn : Int)] ∧ OwnK wr w.heap.size 37 2 (.slice A1 n kc) (O.map dnC) ∧ Below w.heap.size w wr) (fun iv _ => n - (intOf iv).toNat)
  case atStart =>
    have hs := HB1.out.size
    have h24 := own24 (W := w1.alloc (.cells #[.slice A1 n kc, .int .i64 (told : Int), .int .i64 (mn : Int)] 25)) (B := w.heap.size) (by simp; omega)
    rw [show (w1.alloc (.cells #[.slice A1 n kc, .int .i64 (told : Int), .int .i64 (mn : Int)] 25)).heap.size = w1.heap.size + 1 by simp] at h24
    exact ⟨0, Nat.zero_le _, rfl, rfl, h24, BoxV.alloc (BoxV.new w1 _ _) _, (HO1.out.alloc _).alloc _, (HB1.out.alloc hs _).alloc (by simp; omega) _⟩
  case round =>
    obtain ⟨k, hk, rfl, hm0, hown, hbx, hdn, hbel⟩ := hrel
    obtain ⟨wo, rfl⟩ : ∃ x, x = wr := ⟨_, rfl⟩
    clear HO1
    by_cases hlt : k < n
    · obtain ⟨ad, xs, rfl, hadb, hx, _, hc⟩ := (HR.out.below hbel).at_ hlt
      rw [List.getElem?_map] at hx
      obtain ⟨⟨kind, site, block, v⟩, hm, rfl⟩ := Option.map_eq_some_iff.1 hx
      have d0 := hc 0 _ rfl
      have d1 := hc 1 _ rfl
      have d2 := hc 2 _ rfl
      have d3 := hc 3 _ rfl
      rw [Nat.add_zero] at d0
      rw [add_offP _ _ _ (by decide)] at d1 d2 d3
      obtain ⟨e, v', hst⟩ := rd_step mode d (playG (mvB d) mode d startB l k) ⟨kind, site, block, v⟩ hm0
      rw [← playG_next (mvB d) hm] at hst
      have hO := out_at HL.out hm hst.out
      rw [HLN.out, HOO.out] at hO
      have hB1 : Below wo.heap.size wo (wo.alloc (.cells #[.int .i64 kind, .int .i64 site, .int .i64 block, .int .u8 (v : Int)] 35)) := (Below.refl _ wo).alloc (Nat.le_refl _) _
      have hownA := hown.alloc (.cells #[.int .i64 kind, .int .i64 site, .int .i64 block, .int .u8 (v : Int)] 35)
      have hbxA := hbx.alloc (.cells #[.int .i64 kind, .int .i64 site, .int .i64 block, .int .u8 (v : Int)] 35)
      have hdnA := hdn.below hB1 (Nat.le_refl _)
      have hbeA := hbel.alloc (by have := hbel.size; omega) (.cells #[.int .i64 kind, .int .i64 site, .int .i64 block, .int .u8 (v : Int)] 35)
      obtain ⟨ad1, rfl, e0, e1⟩ := dn_cells hdnA hlt hO
      have b0 := hbxA.cell (j := 0) rfl
      have b2 := hbxA.cell (j := 2) rfl
      have hbs : BoxV (wo.alloc (.cells #[.int .i64 kind, .int .i64 site, .int .i64 block, .int .u8 (v : Int)] 35)) wo.heap.size 35 [.int .i64 kind, .int .i64 site, .int .i64 block, .int .u8 (v : Int)] := BoxV.new wo _ _
      have x0 := hbs.cell (j := 0) rfl; have x1 := hbs.cell (j := 1) rfl; have x2 := hbs.cell (j := 2) rfl; have x3 := hbs.cell (j := 3) rfl
      have i0 : (0 : Int) ≤ (k : Int) := by omega
      have i1 : (k : Int) < (n : Int) := by omega
      clear hx hc hown hbx hdn hbel hB1
      by_cases he : e = 0
      · have te : ((e : Int) != 0) = false := by simp [he]
        by_cases k10 : kind = 10
        · have hm2 := hst.sw he k10
          have hmn2 := play_main (mvB d) mode d startB l (k + 1) hm2 (n - (k + 1))
          rw [show k + 1 + (n - (k + 1)) = n by omega, HMN.out] at hmn2
          have tm : ((mn : Int) == 1) = true := by simp [hmn2]
          have t10 : (kind == 10) = true := by simpa using k10
          have HBE := Lib.hid hbeA
          clear hbs hst hownA hbxA hdnA hbeA hm0 hO HOO hm2 hmn2 he k10 hm
          go_wp2
          go_ret
          exact ⟨rfl, HBE.out⟩
        have t10 : (kind == 10) = false := by simpa using k10
        by_cases k1 : kind = 1
        · obtain ⟨g0, g1, hbl1, hm1⟩ := hst.wr he k1
          obtain ⟨b, hbb⟩ : ∃ b : Nat, block = (b : Int) := ⟨block.toNat, by simp only at g0; omega⟩
          subst hbb
          simp only [Int.toNat_natCast] at g0 g1 hbl1
          have hb24 : b < 24 := by omega
          have t1 : (kind == 1) = true := by simpa using k1
          have t9 : (kind == 9) = false := by simp; omega
          obtain ⟨ob, hob⟩ : ∃ ob : Value, (vn .u8 (playG (mvB d) mode d startB l k).a0.1)[b]? = some ob := by
            have := hownA.reads.len
            exact ⟨_, List.getElem?_eq_getElem (by omega)⟩
          have o0 := hownA.cellAt (j := b) hb24
          have o1 := hownA.frozenAt b
          rw [hob] at o0
          rw [add_row] at o0 o1
          have hset := hownA.set b (.int .u8 (v : Int))
          rw [add_row, vn_set, ← hbl1] at hset
          have hnb := hownA.notBox hbxA (by decide)
          have hnd : ∀ q, (Value.slice (some ad1) n kc).ownBlock = some q → q ≠ w1.heap.size + 1 := fun q hq e => by
            obtain ⟨cc, hcc⟩ := hdnA.ty hq
            obtain ⟨cc2, hcc2⟩ := hownA.ty rfl
            exact ty_ne hcc hcc2 (by decide) e
          have hbsS := hbs.setOther (c := w1.heap.size + 1) (j := b) (.int .u8 (v : Int)) (fun e => by obtain ⟨cc2, hcc2⟩ := hownA.ty rfl; exact ty_ne hbs hcc2 (by decide) e)
          have y0 := hbsS.cell (j := 0) rfl; have y1 := hbsS.cell (j := 1) rfl
          have HM1 := Lib.hid hm1
          have HOWN := Lib.hid hset
          have HBX := Lib.hid (hbxA.setOther (c := w1.heap.size + 1) (j := b) (.int .u8 (v : Int)) (by omega))
          have HDN := Lib.hid (hdnA.ch ((Ch.refl _ (fun q => q = w1.heap.size + 1)).setCell (w1.heap.size + 1) b (.int .u8 (v : Int)) (fun _ => rfl)) hnd)
          have HBE := Lib.hid (hbeA.setCell (p := ⟨w1.heap.size + 1, b, none⟩) (by have := HB1.out.size; simp; omega) (.int .u8 (v : Int)))
          clear hbs hst hownA hbxA hdnA hbeA hm0 hO HOO hbl1 hm1 he k1 k10 hm hob hset hnb hnd hbsS
          go_wp2
          go_quiet (fail)
          go_wp2
          go_roundw
          case rel => exact ⟨k + 1, by omega, by go_num, HM1.out, HOWN.out.drewN _, HBX.out.drewN _, HDN.out.drewN _, below_drewN HBE.out _⟩
          case measure => simp [intOf] <;> omega
        have t1 : (kind == 1) = false := by simpa using k1
        by_cases k9 : kind = 9
        · obtain ⟨g0, g1, hbl1, hm1, hv⟩ := hst.rd he k9
          obtain ⟨b, hbb⟩ : ∃ b : Nat, block = (b : Int) := ⟨block.toNat, by simp only at g0; omega⟩
          subst hbb
          simp only [Int.toNat_natCast] at g0 g1 hv
          have hb24 : b < 24 := by omega
          have t9 : (kind == 9) = true := by simpa using k9
          have o0 := hownA.cellAt (j := b) hb24
          rw [add_row] at o0
          have HM1 := Lib.hid hm1
          have HOWN : Hid (Own (wo.alloc (.cells #[.int .i64 kind, .int .i64 site, .int .i64 (b : Int), .int .u8 (v : Int)] 35)) w.heap.size 5 (.slice (some ⟨w1.heap.size + 1, 0, none⟩) 24 24) (vn .u8 (playG (mvB d) mode d startB l (k + 1)).a0.1)) := by rw [hbl1]; exact hownA
          have HBX := Lib.hid hbxA
          have HDN := Lib.hid hdnA
          have HBE := Lib.hid hbeA
          by_cases hs : site = 0
          · have ts : (site == 0) = true := by simpa using hs
            have hl24 : (playG (mvB d) mode d startB l k).a0.1.length = 24 := by have := hownA.reads.len; simpa [vn] using this
            rw [show (vn .u8 (playG (mvB d) mode d startB l k).a0.1)[b]? = some (.int .u8 (v' : Int)) by rw [hv hs]; simp [vn, List.getD, List.getElem?_eq_getElem (show b < (playG (mvB d) mode d startB l k).a0.1.length by omega)]] at o0
            have tv : ((v' : Int) != (v' : Int)) = false := by simp
            clear hbs hst hownA hbxA hdnA hbeA hm0 hO HOO hbl1 hm1 he k1 k9 k10 hm hv hs hl24
            go_wp2
            go_quiet (fail)
            go_wp2
            go_roundw
            case rel => exact ⟨k + 1, by omega, by go_num, HM1.out, HOWN.out.drewN _, HBX.out.drewN _, HDN.out.drewN _, below_drewN HBE.out _⟩
            case measure => simp [intOf] <;> omega
          · have ts : (site == 0) = false := by simpa using hs
            clear hbs hst hownA hbxA hdnA hbeA hm0 hO HOO hbl1 hm1 he k1 k9 k10 hm hv hs o0
            go_wp2
            go_quiet (fail)
            go_wp2
            go_roundw
            case rel => exact ⟨k + 1, by omega, by go_num, HM1.out, HOWN.out.drewN _, HBX.out.drewN _, HDN.out.drewN _, below_drewN HBE.out _⟩
            case measure => simp [intOf] <;> omega
        · have t9 : (kind == 9) = false := by simpa using k9
          obtain ⟨hbl1, hm1⟩ := hst.ot he k1 k9 k10
          have HM1 := Lib.hid hm1
          have HOWN : Hid (Own (wo.alloc (.cells #[.int .i64 kind, .int .i64 site, .int .i64 block, .int .u8 (v : Int)] 35)) w.heap.size 5 (.slice (some ⟨w1.heap.size + 1, 0, none⟩) 24 24) (vn .u8 (playG (mvB d) mode d startB l (k + 1)).a0.1)) := by rw [hbl1]; exact hownA
          have HBX := Lib.hid hbxA
          have HDN := Lib.hid hdnA
          have HBE := Lib.hid hbeA
          clear hbs hst hownA hbxA hdnA hbeA hm0 hO HOO hbl1 hm1 he k1 k9 k10 hm
          by_cases g0 : block < 0
          · go_wp2
            go_roundw
            case rel => exact ⟨k + 1, by omega, by go_num, HM1.out, HOWN.out, HBX.out, HDN.out, HBE.out⟩
            case measure => simp [intOf] <;> omega
          · by_cases g1 : 24 ≤ block
            · go_wp2
              go_roundw
              case rel => exact ⟨k + 1, by omega, by go_num, HM1.out, HOWN.out, HBX.out, HDN.out, HBE.out⟩
              case measure => simp [intOf] <;> omega
            · go_wp2
              go_quiet (fail)
              go_wp2
              go_roundw
              case rel => exact ⟨k + 1, by omega, by go_num, HM1.out, HOWN.out.drewN _, HBX.out.drewN _, HDN.out.drewN _, below_drewN HBE.out _⟩
              case measure => simp [intOf] <;> omega
      · have te : ((e : Int) != 0) = true := by simp; omega
        obtain ⟨hbl1, hm1⟩ := hst.bad he
        have HM1 := Lib.hid hm1
        have HOWN : Hid (Own (wo.alloc (.cells #[.int .i64 kind, .int .i64 site, .int .i64 block, .int .u8 (v : Int)] 35)) w.heap.size 5 (.slice (some ⟨w1.heap.size + 1, 0, none⟩) 24 24) (vn .u8 (playG (mvB d) mode d startB l (k + 1)).a0.1)) := by rw [hbl1]; exact hownA
        have HBX := Lib.hid hbxA
        have HDN := Lib.hid hdnA
        have HBE := Lib.hid hbeA
        clear hbs hst hownA hbxA hdnA hbeA hm0 hO HOO hbl1 hm1 he hm
        go_wp2
        go_roundw
        case rel => exact ⟨k + 1, by omega, by go_num, HM1.out, HOWN.out, HBX.out, HDN.out, HBE.out⟩
        case measure => simp [intOf] <;> omega
    · obtain rfl : n = k := by omega
      have hmn : mn = 0 := by rw [← HMN.out]; exact hm0
      have tm : ((mn : Int) == 0) = true := by simp [hmn]
      have b2 := hbx.cell (j := 2) rfl
      clear hmn
      go_wp2
      go_ret
      exact ⟨rfl, hbel⟩
end Go.Proofs.Ytbhhijdpmpcdnaa

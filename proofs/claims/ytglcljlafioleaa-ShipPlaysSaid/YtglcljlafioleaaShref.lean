/-
  quipuref.Ship.
-/
import Derived.Test.YtglcljlafioleaaShpl
import Derived.Test.YtglcljlafioleaaShrf
set_option linter.unusedVariables false
namespace Go.Proofs.Ytglcljlafioleaa
open Go.RowKit

theorem ref_start {w W : World} {mode sb gm go : Nat} (hs : w.heap.size ≤ W.heap.size) (ho : W.os = w.os ∧ W.tape = w.tape ∧ W.output = w.output) (hB : ∀ b, b < w.heap.size → W.heap[b]? = w.heap[b]?)
    (h0 : W.heap[w.heap.size]? = some (.cells #[.slice none 0 0, .int .i64 0, .int .i64 0, .int .i64 0, .slice none 0 0, .slice none 0 0] 48 (0, 0)))
    (h1 : W.heap[w.heap.size + 1]? = some (.cells #[.int .i64 (mode : Int), .slice none 0 0, .int .i64 0, .slice none 0 0, .slice none 0 0, .int .i64 0, .int .i64 0] 92 (0, 0)))
    (h2 : W.heap[sb]? = some (.cells #[.slice none 0 0, .int .i64 0, .int .i64 0, .int .i64 0, .slice (some ⟨gm, 0, none⟩) 8 8, .slice (some ⟨go, 0, none⟩) 8 8] 48 (0, 0)))
    (h3 : W.heap[gm]? = some (.cells (madeCells #[.int .u8 0] 8) 5 (0, 0))) (h4 : W.heap[go]? = some (.cells (madeCells #[.int .u8 0] 8) 5 (0, 0))) (hne : gm ≠ go) (b1 : w.heap.size ≤ gm) (b2 : w.heap.size ≤ go) (b3 : w.heap.size < sb) :
    ShR W w.heap.size sb gm go (.slice none 0 0) (.slice none 0 0) [] [] (List.replicate 8 0) (List.replicate 8 0) ∧ LineR W w.heap.size (w.heap.size + 1) (.slice none 0 0) (.slice none 0 0) (.slice none 0 0) mode 0 0 0 0 ∧ BoxV W w.heap.size 48 [.slice none 0 0, .int .i64 0, .int .i64 0, .int .i64 0, .slice none 0 0, .slice none 0 0] ∧ Below w.heap.size w W ∧ w.heap.size < sb :=
  ⟨⟨h2, Own.nil _ _ _, OwnQ.nil _ _ _ _, own8 h3 b1, own8 h4 b2, hne⟩, ⟨h1, OwnQ.nil _ _ _ _, OwnQ.nil _ _ _ _, fun b hb => (by cases hb), Nat.le_refl _, Nat.le_refl _⟩, h0, ⟨ho.1, ho.2.1, ho.2.2, hs, hB⟩, b3⟩
set_option maxRecDepth 100000 in
set_option maxHeartbeats 8000000 in
theorem ref_Ship (mode : Nat) (A : Option Addr) (n c : Nat) (l : List StS) (w : World) (h : ReadsK w w.heap.size 4 A n (l.map stC)) (hl : ∀ m ∈ l, m.val < 256) (h1 : 1 ≤ mode) (h3 : mode ≤ 3) (hn : n ≤ 100) :
    Calls Try.prog 22 #[.int .i64 (mode : Int), .slice A n c] w (fun e w' => ∃ CV gm go, e = .returned (.agg #[CV, .int .i64 (toldS mode (playS mode l n) : Int), .int .i64 ((playS mode l n).g : Int), .int .i64 ((playS mode l n).p : Int), .slice (some ⟨gm, 0, none⟩) 8 8, .slice (some ⟨go, 0, none⟩) 8 8]) ∧
      Own w' w.heap.size 24 CV (vn .i64 (playS mode l n).codes) ∧ Own w' w.heap.size 5 (.slice (some ⟨gm, 0, none⟩) 8 8) (vn .u8 (playS mode l n).main) ∧ Own w' w.heap.size 5 (.slice (some ⟨go, 0, none⟩) 8 8) (vn .u8 (playS mode l n).other) ∧ Below w.heap.size w w') := by
  have HR := Lib.hid h
  have HL := Lib.hid hl
  have HN : Hid (l.length = n) := by have := h.len; rwa [List.length_map] at this
  have hmk := make8
  clear h hl
  go_enter Try.func22, Try.ntmps22
  go_wp2
  go_cut [6] (fun sv wc => ∃ sb gm go, sv = .pointer (some ⟨sb, 0, none⟩) ∧ ShR wc w.heap.size sb gm go (.slice none 0 0) (.slice none 0 0) [] [] (List.replicate 8 0) (List.replicate 8 0) ∧ LineR wc w.heap.size (w.heap.size + 1) (.slice none 0 0) (.slice none 0 0) (.slice none 0 0) mode 0 0 0 0 ∧ BoxV wc w.heap.size 48 [.slice none 0 0, .int .i64 0, .int .i64 0, .int .i64 0, .slice none 0 0, .slice none 0 0] ∧ Below w.heap.size w wc ∧ w.heap.size < sb)
  case first =>
    go_region
    all_goals (try go_wp2_with fail)
    all_goals go_meet
    all_goals first
      | (refine ⟨_, w.heap.size + 2, w.heap.size + 3, rfl, ref_start ?_ ⟨rfl, rfl, rfl⟩ ?_ ?_ ?_ ?_ ?_ ?_ (by omega) (by omega) (by omega) (by omega)⟩; (simp only [hp_drew, hp_size]; omega); (intro q hq; simp only [hp_drew, hp_alloc, hp_size]; repeat rw [if_neg (by omega)]); all_goals (simp only [hp_drew, hp_alloc, hp_size]; repeat (first | rw [if_pos trivial] | rw [if_pos (by omega)] | rw [if_neg (by omega)])); all_goals (first | done | rfl))
      | (refine ⟨_, w.heap.size + 3, w.heap.size + 2, rfl, ref_start ?_ ⟨rfl, rfl, rfl⟩ ?_ ?_ ?_ ?_ ?_ ?_ (by omega) (by omega) (by omega) (by omega)⟩; (simp only [hp_drew, hp_size]; omega); (intro q hq; simp only [hp_drew, hp_alloc, hp_size]; repeat rw [if_neg (by omega)]); all_goals (simp only [hp_drew, hp_alloc, hp_size]; repeat (first | rw [if_pos trivial] | rw [if_pos (by omega)] | rw [if_neg (by omega)])); all_goals (first | done | rfl))
      | (refine ⟨_, w.heap.size + 2, w.heap.size + 4, rfl, ref_start ?_ ⟨rfl, rfl, rfl⟩ ?_ ?_ ?_ ?_ ?_ ?_ (by omega) (by omega) (by omega) (by omega)⟩; (simp only [hp_drew, hp_size]; omega); (intro q hq; simp only [hp_drew, hp_alloc, hp_size]; repeat rw [if_neg (by omega)]); all_goals (simp only [hp_drew, hp_alloc, hp_size]; repeat (first | rw [if_pos trivial] | rw [if_pos (by omega)] | rw [if_neg (by omega)])); all_goals (first | done | rfl))
      | (refine ⟨_, w.heap.size + 4, w.heap.size + 2, rfl, ref_start ?_ ⟨rfl, rfl, rfl⟩ ?_ ?_ ?_ ?_ ?_ ?_ (by omega) (by omega) (by omega) (by omega)⟩; (simp only [hp_drew, hp_size]; omega); (intro q hq; simp only [hp_drew, hp_alloc, hp_size]; repeat rw [if_neg (by omega)]); all_goals (simp only [hp_drew, hp_alloc, hp_size]; repeat (first | rw [if_pos trivial] | rw [if_pos (by omega)] | rw [if_neg (by omega)])); all_goals (first | done | rfl))
      | (refine ⟨_, w.heap.size + 3, w.heap.size + 4, rfl, ref_start ?_ ⟨rfl, rfl, rfl⟩ ?_ ?_ ?_ ?_ ?_ ?_ (by omega) (by omega) (by omega) (by omega)⟩; (simp only [hp_drew, hp_size]; omega); (intro q hq; simp only [hp_drew, hp_alloc, hp_size]; repeat rw [if_neg (by omega)]); all_goals (simp only [hp_drew, hp_alloc, hp_size]; repeat (first | rw [if_pos trivial] | rw [if_pos (by omega)] | rw [if_neg (by omega)])); all_goals (first | done | rfl))
      | (refine ⟨_, w.heap.size + 4, w.heap.size + 3, rfl, ref_start ?_ ⟨rfl, rfl, rfl⟩ ?_ ?_ ?_ ?_ ?_ ?_ (by omega) (by omega) (by omega) (by omega)⟩; (simp only [hp_drew, hp_size]; omega); (intro q hq; simp only [hp_drew, hp_alloc, hp_size]; repeat rw [if_neg (by omega)]); all_goals (simp only [hp_drew, hp_alloc, hp_size]; repeat (first | rw [if_pos trivial] | rw [if_pos (by omega)] | rw [if_neg (by omega)])); all_goals (first | done | rfl))
  case rest =>
    obtain ⟨sb, gm, go, rfl, hsr, hln, hres, hbel, hsb⟩ := hcut
    have HSB := Lib.hid hsb
    have HSR := Lib.hid hsr
    have HLN := Lib.hid hln
    have HRES := Lib.hid hres
    have HBEL := Lib.hid hbel
    clear hsr hln hres hbel hsb hmk
    go_wp2
    go_loopw [19] (fun iv wr => ∃ (k c0 c1 : Nat) (CA WA : Option Addr) (yV qV : Value), k ≤ n ∧ iv = .int .i64 (k : Int) ∧ ShR wr w.heap.size sb gm go (.slice CA k c0) (.slice WA (playS mode l k).ws.length c1) (playS mode l k).codes (playS mode l k).ws (playS mode l k).main (playS mode l k).other ∧ LineR wr w.heap.size (w.heap.size + 1) (.slice WA (playS mode l k).ws.length c1) yV qV mode (playS mode l k).s (playS mode l k).g (playS mode l k).p (playS mode l k).k ∧ BoxV wr w.heap.size 48 [.slice none 0 0, .int .i64 0, .int .i64 0, .int .i64 0, .slice none 0 0, .slice none 0 0] ∧ w.heap.size < sb ∧ Below w.heap.size w wr) (fun iv _ => n - (intOf iv).toNat)
    case atStart => exact ⟨0, 0, 0, none, none, _, _, Nat.zero_le _, rfl, HSR.out, HLN.out, HRES.out, HSB.out, HBEL.out⟩
    case round =>
      obtain ⟨k, c0, c1, CA, WA, yV, qV, hk, rfl, hsr, hln, hres, hsb, hbel⟩ := hrel
      obtain ⟨wo, rfl⟩ : ∃ x, x = wr := ⟨_, rfl⟩
      clear HSR HLN HRES HBEL HSB
      by_cases hlt : k < n
      · obtain ⟨ad, xs, rfl, hadb, hx, _, hc⟩ := (HR.out.below hbel).at_ hlt
        rw [List.getElem?_map] at hx
        obtain ⟨⟨kind, site, block, v⟩, hm, rfl⟩ := Option.map_eq_some_iff.1 hx
        have hv256 : v < 256 := HL.out _ (List.mem_of_getElem? hm)
        have d0 := hc 0 _ rfl
        have d1 := hc 1 _ rfl
        have d2 := hc 2 _ rfl
        have d3 := hc 3 _ rfl
        rw [Nat.add_zero] at d0
        rw [add_secondS] at d1
        rw [add_thirdS] at d2
        rw [add_fourthS] at d3
        have hok := ShOk.play HL.out mode k (by have := HN.out; omega)
        have hnx := playS_next (mode := mode) hm
        generalize playS mode l k = t at *
        have i0 : (0 : Int) ≤ (k : Int) := by omega
        have i1 : (k : Int) < (n : Int) := by omega
        clear hx hc hm
        have HBX : Hid (BoxV (wo.alloc (.cells #[.int .i64 kind, .int .i64 site, .int .i64 block, .int .u8 (v : Int)] 85)) wo.heap.size 85 [.int .i64 kind, .int .i64 site, .int .i64 block, .int .u8 (v : Int)]) := BoxV.new wo _ _
        have HSR1 := Lib.hid (hsr.below ((Below.refl _ _).alloc (Nat.le_refl _) (.cells #[.int .i64 kind, .int .i64 site, .int .i64 block, .int .u8 (v : Int)] 85)))
        have HLN1 := Lib.hid (hln.alloc (.cells #[.int .i64 kind, .int .i64 site, .int .i64 block, .int .u8 (v : Int)] 85))
        have HRES1 := Lib.hid (hres.alloc (.cells #[.int .i64 kind, .int .i64 site, .int .i64 block, .int .u8 (v : Int)] 85))
        have HB1 := Lib.hid (hbel.alloc (by have := hbel.size; omega) (.cells #[.int .i64 kind, .int .i64 site, .int .i64 block, .int .u8 (v : Int)] 85))
        have HS : Hid (w.heap.size + 1 < wo.heap.size) := hln.box.lt
        have HSB := Lib.hid hsb
        have HHS : Hid (w.heap.size < wo.heap.size) := by have := HS.out; unfold Hid; omega
        clear hsr hln hres hbel hsb
        by_cases h1 : kind = 1
        · subst h1
          by_cases hb : 0 ≤ block ∧ block < 8
          · obtain ⟨b, rfl⟩ : ∃ b : Nat, block = (b : Int) := ⟨block.toNat, by omega⟩
            rw [stepS, if_pos rfl, if_pos hb, show ((b : Int)).toNat = b by omega] at hnx
            have hb8 : b < 8 := by omega
            have hm8 := hok.ml
            have b0 : (0 : Int) ≤ (b : Int) := by omega
            have b1 : (b : Int) < 8 := by omega
            have HNX := Lib.hid hnx
            have x0 := HBX.out.cell (j := 0) rfl; have x2 := HBX.out.cell (j := 2) rfl; have x3 := HBX.out.cell (j := 3) rfl
            have s4 := HSR1.out.box.cell (j := 4) rfl
            have m0 := HSR1.out.mai.cellAt (j := b) hb8
            have m1 := HSR1.out.mai.frozenAt b
            obtain ⟨mb, hmb⟩ : ∃ mb : Nat, t.main[b]? = some mb := ⟨_, List.getElem?_eq_getElem (by omega)⟩
            rw [show (vn .u8 t.main)[b]? = some (.int .u8 (mb : Int)) by simp [vn, hmb]] at m0
            clear hmb hnx hm8
            rw [add_row] at m0 m1
            obtain ⟨cg, hcg⟩ := HSR1.out.gmTy
            have HSR3 := Lib.hid (HSR1.out.putMain b v)
            have HLN3 := Lib.hid (HLN1.out.setTy (b := gm) (j := b) hcg (by decide) (by decide) (.int .u8 (v : Int)))
            have HRES3 := Lib.hid (HRES1.out.setOther (c := gm) (j := b) (.int .u8 (v : Int)) (Ne.symm (ty_ne hcg HRES1.out (by decide))))
            have HBX3 := Lib.hid (HBX.out.setOther (c := gm) (j := b) (.int .u8 (v : Int)) (Ne.symm (ty_ne hcg HBX.out (by decide))))
            have HB3 := Lib.hid (HB1.out.setCell (p := ⟨gm, b, none⟩) (show w.heap.size ≤ gm from (HSR1.out.mai.lt gm rfl).1) (.int .u8 (v : Int)))
            clear hcg HSR1 HLN1 HRES1 HBX HB1
            go_wp2
            clear m0 m1 x0 x2 x3 s4
            obtain ⟨W, hW⟩ : ∃ x, x = ((wo.alloc (.cells #[.int .i64 1, .int .i64 site, .int .i64 (b : Int), .int .u8 (v : Int)] 85)).setCell ⟨gm, b, none⟩ (.int .u8 (v : Int))) := ⟨_, rfl⟩
            have hWs : W.heap.size = wo.heap.size + 1 := by rw [hW]; simp
            rw [← hW]
            rw [← hW] at HSR3 HLN3 HRES3 HBX3 HB3
            have HWS := Lib.hid hWs
            clear hW hWs
            have y0 := HBX3.out.cell (j := 0) rfl; have y1 := HBX3.out.cell (j := 1) rfl; have y2 := HBX3.out.cell (j := 2) rfl; have y3 := HBX3.out.cell (j := 3) rfl
            have l1 := HLN3.out.box.cell (j := 1) rfl
            have hbA := HBX3.out.alloc (.cells #[.int .i64 1, .int .i64 site, .int .i64 (b : Int), .int .u8 (v : Int)] 85)
            have z0 := hbA.cell (j := 0) rfl; have z1 := hbA.cell (j := 1) rfl; have z2 := hbA.cell (j := 2) rfl; have z3 := hbA.cell (j := 3) rfl
            have hlA := HLN3.out.box.alloc (.cells #[.int .i64 1, .int .i64 site, .int .i64 (b : Int), .int .u8 (v : Int)] 85)
            have l2 := hlA.cell (j := 1) rfl
            have HLD : Hid (LineR (W.alloc (.cells #[.int .i64 1, .int .i64 site, .int .i64 (b : Int), .int .u8 (v : Int)] 85)).drew w.heap.size (w.heap.size + 1) (.slice WA t.ws.length c1) yV qV mode t.s t.g t.p t.k) := (HLN3.out.alloc (.cells #[.int .i64 1, .int .i64 site, .int .i64 (b : Int), .int .u8 (v : Int)] 85)).drew
            have HLA := Lib.hid hlA
            have HQ := Lib.hid (HSR3.out.wri.alloc (.cells #[.int .i64 1, .int .i64 site, .int .i64 (b : Int), .int .u8 (v : Int)] 85)).drew
            have HRA := Lib.hid (HSR3.out.below ((Below.refl _ _).alloc (Nat.le_refl _) (.cells #[.int .i64 1, .int .i64 site, .int .i64 (b : Int), .int .u8 (v : Int)] 85)))
            have HNEW : Hid (∀ j u, [Value.int .i64 1, .int .i64 site, .int .i64 (b : Int), .int .u8 (v : Int)][j]? = some u → (W.alloc (.cells #[.int .i64 1, .int .i64 site, .int .i64 (b : Int), .int .u8 (v : Int)] 85)).drew.cell? ((⟨W.heap.size, 0, none⟩ : Addr).add j) = some u) := fun j u hu => by
              rw [add_row]; exact (BoxV.new W [Value.int .i64 1, .int .i64 site, .int .i64 (b : Int), .int .u8 (v : Int)] 85).cell hu
            have HYS : Hid (t.ws.map stC ++ [[Value.int .i64 1, .int .i64 site, .int .i64 (b : Int), .int .u8 (v : Int)]] = (t.ws ++ [(⟨1, site, b, v⟩ : StS)]).map stC) := by unfold Hid; simp [stC]
            clear hbA hlA
            go_region_law (refine step_appQs el_stepK rfl (.tmp 45) (.tmp 47) rfl rfl HQ.out ⟨W.heap.size, 0, none⟩ 1 [Value.int .i64 1, .int .i64 site, .int .i64 (b : Int), .int .u8 (v : Int)] ((t.ws ++ [(⟨1, site, b, v⟩ : StS)]).map stC) (t.ws.length + 1) HYS (by simp [Hid]) rfl rfl HNEW.out (by intro u hu; simp only [List.mem_cons, List.not_mem_nil, or_false] at hu; rcases hu with rfl | rfl | rfl | rfl <;> rfl) (by have := hok.le4; unfold maxLen; omega) (by have := hok.le4; omega) (by have := HB3.out.size; simp; omega) ?_; intro A3 k3 w3 ho3 hg3 hat3; have hb3 : BoxV w3 (w.heap.size + 1) _ _ := HLA.out.drew.ch (Ch.of_grown hg3) (fun e => HQ.out.notBox HLA.out.drew (by decide) e); have e3 := hb3.cell (j := 1) rfl; have f3 := hb3.free 1)
            all_goals
              have HRD : ShR (W.alloc (.cells #[.int .i64 1, .int .i64 site, .int .i64 (b : Int), .int .u8 (v : Int)] 85)).drew w.heap.size sb gm go _ _ _ _ _ _ := HRA.out.drew
              have HSR4 : Hid (ShR (w3.setCell ⟨w.heap.size + 1, 1, none⟩ (.slice A3 (t.ws.length + 1) k3)) w.heap.size sb gm go (.slice CA k c0) (.slice A3 (t.ws ++ [(⟨1, site, b, v⟩ : StS)]).length k3) t.codes (t.ws ++ [(⟨1, site, b, v⟩ : StS)]) (t.main.set b v) t.other) := by
                rw [List.length_append]; exact HRD.push (x := (⟨1, site, b, v⟩ : StS)) ho3 hg3 hb3 (by decide)
              have HLN4 : Hid (LineR (w3.setCell ⟨w.heap.size + 1, 1, none⟩ (.slice A3 (t.ws.length + 1) k3)) w.heap.size (w.heap.size + 1) (.slice A3 (t.ws ++ [(⟨1, site, b, v⟩ : StS)]).length k3) yV qV mode t.s t.g t.p t.k) := by
                rw [List.length_append]; exact HLD.out.push (x := (⟨1, site, b, v⟩ : StS)) HRD.wri hg3
              have HRES4 := Lib.hid (((HRES3.out.alloc (.cells #[.int .i64 1, .int .i64 site, .int .i64 (b : Int), .int .u8 (v : Int)] 85)).drew.ch (Ch.of_grown hg3) (fun e => HQ.out.notBox ((HRES3.out.alloc (.cells #[.int .i64 1, .int .i64 site, .int .i64 (b : Int), .int .u8 (v : Int)] 85)).drew) (by decide) e)).setOther (c := w.heap.size + 1) (j := 1) (.slice A3 (t.ws.length + 1) k3) (by omega))
              have HB4 := Lib.hid ((((HB3.out.alloc (by have := HB3.out.size; omega) (.cells #[.int .i64 1, .int .i64 site, .int .i64 (b : Int), .int .u8 (v : Int)] 85)).drew).grown hg3 (by have := HB3.out.size; simp; omega) (fun q hq => (HQ.out.lt q hq).1)).setCell (p := ⟨w.heap.size + 1, 1, none⟩) (by simp) (.slice A3 (t.ws.length + 1) k3))
              have s0 := HSR4.out.box.cell (j := 0) rfl
              clear HLD HRD ho3 hg3 hat3 hb3 e3 f3 HRA HQ HLA HNEW HYS l1 l2 y0 y1 y2 y3 z0 z1 z2 z3 HSR3 HLN3 HRES3 HBX3 HB3
              go_wp2_with (refine app1z el_errno rfl (.tmp 88) (.tmp 90) rfl rfl HSR4.out.cod (.int .i64 0) 24 (vn .i64 (t.codes ++ [0])) (k + 1) (vn_snoc _ 0) (by simp [vn, hok.cl, Hid]) _ rfl (by simp) rfl (by unfold maxLen; omega) (by omega) (by have := HB4.out.size; omega) ?_; intro A5 c5 w5 ho5 hbe5 hg5 hat5
                           obtain ⟨e1, e2, e3, e4, e5, e6⟩ := ref_after HSR4.out HLN4.out HRES4.out HSB.out HB4.out ho5 hbe5 hg5
                           have E1 := Lib.hid e1; have E2 := Lib.hid e2; have E3 := Lib.hid e3; have E4 := Lib.hid e4
                           clear ho5 hbe5 hg5 hat5 e1 e2 e3 e4 HSR4 HLN4 HRES4 HB4 s0)
              go_roundw
              case rel => exact ⟨k + 1, c5, _, A5, _, _, _, by omega, by go_num, by rw [HNX.out]; exact E1.out, by rw [HNX.out]; exact E2.out, E3.out, HSB.out, E4.out⟩
              case measure => simp [intOf] <;> omega
          · rw [stepS, if_pos rfl, if_neg hb] at hnx
            have HNX := Lib.hid hnx
            have x0 := HBX.out.cell (j := 0) rfl; have x2 := HBX.out.cell (j := 2) rfl
            have s0 := HSR1.out.box.cell (j := 0) rfl
            have HSR4 := HSR1; have HLN4 := HLN1; have HRES4 := HRES1; have HB4 := HB1
            clear hnx HSR1 HLN1 HRES1 HB1 HBX
            by_cases hb0 : block < 0
            · clear hb
              go_wp2_with (refine app1z el_errno rfl (.tmp 88) (.tmp 90) rfl rfl HSR4.out.cod (.int .i64 2) 24 (vn .i64 (t.codes ++ [2])) (k + 1) (vn_snoc _ 2) (by simp [vn, hok.cl, Hid]) _ rfl (by simp) rfl (by unfold maxLen; omega) (by omega) (by have := HB4.out.size; omega) ?_; intro A5 c5 w5 ho5 hbe5 hg5 hat5
                           obtain ⟨e1, e2, e3, e4, e5, e6⟩ := ref_after HSR4.out HLN4.out HRES4.out HSB.out HB4.out ho5 hbe5 hg5
                           have E1 := Lib.hid e1; have E2 := Lib.hid e2; have E3 := Lib.hid e3; have E4 := Lib.hid e4
                           clear ho5 hbe5 hg5 hat5 e1 e2 e3 e4 HSR4 HLN4 HRES4 HB4 s0)
              go_roundw
              case rel => exact ⟨k + 1, c5, _, A5, _, _, _, by omega, by go_num, by rw [HNX.out]; exact E1.out, by rw [HNX.out]; exact E2.out, E3.out, HSB.out, E4.out⟩
              case measure => simp [intOf] <;> omega
            · have hb1 : 8 ≤ block := by omega
              clear hb
              go_wp2_with (refine app1z el_errno rfl (.tmp 88) (.tmp 90) rfl rfl HSR4.out.cod (.int .i64 2) 24 (vn .i64 (t.codes ++ [2])) (k + 1) (vn_snoc _ 2) (by simp [vn, hok.cl, Hid]) _ rfl (by simp) rfl (by unfold maxLen; omega) (by omega) (by have := HB4.out.size; omega) ?_; intro A5 c5 w5 ho5 hbe5 hg5 hat5
                           obtain ⟨e1, e2, e3, e4, e5, e6⟩ := ref_after HSR4.out HLN4.out HRES4.out HSB.out HB4.out ho5 hbe5 hg5
                           have E1 := Lib.hid e1; have E2 := Lib.hid e2; have E3 := Lib.hid e3; have E4 := Lib.hid e4
                           clear ho5 hbe5 hg5 hat5 e1 e2 e3 e4 HSR4 HLN4 HRES4 HB4 s0)
              go_roundw
              case rel => exact ⟨k + 1, c5, _, A5, _, _, _, by omega, by go_num, by rw [HNX.out]; exact E1.out, by rw [HNX.out]; exact E2.out, E3.out, HSB.out, E4.out⟩
              case measure => simp [intOf] <;> omega
        · have t1 : (kind == 1) = false := by simpa using h1
          rw [stepS, if_neg h1] at hnx
          by_cases h26 : kind < 1 ∨ 6 < kind
          · have hd : doS t.ws.length mode t.s t.g t.p t.k kind = ⟨6, false, t.s, t.g, t.p, t.k⟩ := by unfold doS; rw [if_neg (by omega), if_neg (by omega), if_neg (by omega), if_neg (by omega), if_neg (by omega)]
            rw [hd] at hnx
            have hoth : othS t.ws t.other kind ⟨6, false, t.s, t.g, t.p, t.k⟩ = t.other := by unfold othS; rw [if_neg (fun e => by omega)]
            rw [hoth] at hnx
            have HNX := Lib.hid hnx
            have x0 := HBX.out.cell (j := 0) rfl
            have s0 := HSR1.out.box.cell (j := 0) rfl
            have HSR4 := HSR1; have HLN4 := HLN1; have HRES4 := HRES1; have HB4 := HB1
            clear hnx HSR1 HLN1 HRES1 HB1 HBX hd hoth
            by_cases ha : kind < 1
            · clear h26
              go_wp2_with (refine app1z el_errno rfl (.tmp 88) (.tmp 90) rfl rfl HSR4.out.cod (.int .i64 6) 24 (vn .i64 (t.codes ++ [6])) (k + 1) (vn_snoc _ 6) (by simp [vn, hok.cl, Hid]) _ rfl (by simp) rfl (by unfold maxLen; omega) (by omega) (by have := HB4.out.size; omega) ?_; intro A5 c5 w5 ho5 hbe5 hg5 hat5
                           obtain ⟨e1, e2, e3, e4, e5, e6⟩ := ref_after HSR4.out HLN4.out HRES4.out HSB.out HB4.out ho5 hbe5 hg5
                           have E1 := Lib.hid e1; have E2 := Lib.hid e2; have E3 := Lib.hid e3; have E4 := Lib.hid e4
                           clear ho5 hbe5 hg5 hat5 e1 e2 e3 e4 HSR4 HLN4 HRES4 HB4 s0)
              go_roundw
              case rel => exact ⟨k + 1, c5, _, A5, _, _, _, by omega, by go_num, by rw [HNX.out]; exact E1.out, by rw [HNX.out]; exact E2.out, E3.out, HSB.out, E4.out⟩
              case measure => simp [intOf] <;> omega
            · have hb : 6 < kind := by omega
              clear h26
              go_wp2_with (refine app1z el_errno rfl (.tmp 88) (.tmp 90) rfl rfl HSR4.out.cod (.int .i64 6) 24 (vn .i64 (t.codes ++ [6])) (k + 1) (vn_snoc _ 6) (by simp [vn, hok.cl, Hid]) _ rfl (by simp) rfl (by unfold maxLen; omega) (by omega) (by have := HB4.out.size; omega) ?_; intro A5 c5 w5 ho5 hbe5 hg5 hat5
                           obtain ⟨e1, e2, e3, e4, e5, e6⟩ := ref_after HSR4.out HLN4.out HRES4.out HSB.out HB4.out ho5 hbe5 hg5
                           have E1 := Lib.hid e1; have E2 := Lib.hid e2; have E3 := Lib.hid e3; have E4 := Lib.hid e4
                           clear ho5 hbe5 hg5 hat5 e1 e2 e3 e4 HSR4 HLN4 HRES4 HB4 s0)
              go_roundw
              case rel => exact ⟨k + 1, c5, _, A5, _, _, _, by omega, by go_num, by rw [HNX.out]; exact E1.out, by rw [HNX.out]; exact E2.out, E3.out, HSB.out, E4.out⟩
              case measure => simp [intOf] <;> omega

          · have h2 : 2 ≤ kind := by omega
            have h6 : kind ≤ 6 := by omega
            have t26a : ¬ kind < 1 := by omega
            have t26b : ¬ 6 < kind := by omega
            have cd := ref_Do w.heap.size (w.heap.size + 1) mode t.s t.g t.p t.k yV qV WA t.ws.length c1 _ HLN1.out (by have := hok.le4; omega) (by have := hok.le3; have := hok.le4; omega) (by have := hok.le2; have := hok.le3; have := hok.le4; omega) (by have := hok.le1; have := hok.le2; have := hok.le3; have := hok.le4; omega) (by have := HB1.out.size; omega) kind h2 h6
            generalize hr : doS t.ws.length mode t.s t.g t.p t.k kind = r at *
            have HNX := Lib.hid hnx
            have HR' := Lib.hid hr
            clear hnx hr h26 h2 h6
            by_cases h4 : kind = 4 ∧ t.p < t.g
            · obtain ⟨h41, hpg⟩ := h4
              have hrq : r = ⟨0, true, t.s, t.g, t.p + 1, t.k⟩ := by
                have e := HR'.out
                rw [h41] at e
                unfold doS at e
                rw [if_neg (by decide), if_neg (by decide), if_pos rfl, if_neg (by omega)] at e
                exact e.symm
              rw [if_pos ⟨h41, hpg⟩] at cd
              have hpw : t.p < t.ws.length := by have := hok.le2; have := hok.le3; omega
              obtain ⟨⟨yk, ysi, yb, yv⟩, hy⟩ : ∃ y, t.ws[t.p]? = some y := ⟨_, List.getElem?_eq_getElem hpw⟩
              obtain ⟨hyb0, hyb8, hyv⟩ := hok.wb _ (List.mem_of_getElem? hy)
              obtain ⟨bb, hbb⟩ : ∃ bb : Nat, yb = (bb : Int) := ⟨yb.toNat, by simp only at hyb0; omega⟩
              subst hbb
              simp only at hyb0 hyb8 hyv
              obtain ⟨ad2, ys2, rfl, _, _, _, _⟩ := HSR1.out.wri.reads.at_ hpw
              have hoth : othS t.ws t.other kind r = t.other.set bb yv := by
                unfold othS; rw [if_pos ⟨h41, by rw [hrq]⟩, hrq]; simp only [Nat.add_sub_cancel]; rw [hy]; simp
              rw [hoth] at HNX
              have p4 : (0 : Int) ≤ (t.p : Int) := by omega
              have p5 : (t.p : Int) < (t.ws.length : Int) := by omega
              have HY := Lib.hid hy
              obtain ⟨ob, hob⟩ : ∃ ob : Nat, t.other[bb]? = some ob := ⟨_, List.getElem?_eq_getElem (by have := hok.ol; omega)⟩
              have HOB := Lib.hid hob
              clear h41 hrq hoth hy hob
              go_wp2_with (go_at_call 39; refine cd.mono ?_; clear cd; rintro e w1 ⟨rfl, yV', qV', hl1, hg1⟩
                           have hbx1 := HBX.out.chLine HLN1.out hg1 (by decide) (by decide)
                           have hsr2 := HSR1.out.chLine HLN1.out hg1
                           have hres2 := HRES1.out.chLine HLN1.out hg1 (by decide) (by decide)
                           have HB2 := Lib.hid (HB1.out.trans (hg1.below (by have := HHS.out; simp; omega) (fun b _ e => HLN1.out.low (by omega) e)))
                           have l1 := hl1.box.cell (j := 1) rfl
                           obtain ⟨c40, c41, c42, c43⟩ := hsr2.wcell rfl HY.out
                           have s5 := hsr2.box.cell (j := 5) rfl
                           have o0 := hsr2.oth.cellAt (j := bb) (by omega)
                           have o1 := hsr2.oth.frozenAt bb
                           rw [show (vn .u8 t.other)[bb]? = some (.int .u8 (ob : Int)) by simp [vn, HOB.out]] at o0
                           rw [add_row] at o0 o1
                           simp only at c40 c41 c42 c43
                           have HSR2 := Lib.hid hsr2; have HLN2 := Lib.hid hl1; have HRES2 := Lib.hid hres2
                           clear hl1 hg1 hbx1 hsr2 hres2 HB1 HSR1 HLN1 HRES1 HBX)
              go_region
              have HSR3 := Lib.hid (HSR2.out.putOther bb yv)
              obtain ⟨cg, hcg⟩ := HSR2.out.goTy
              have HLN3 := Lib.hid (HLN2.out.setTy (b := go) (j := bb) hcg (by decide) (by decide) (.int .u8 (yv : Int)))
              have HRES3 := Lib.hid (HRES2.out.setOther (c := go) (j := bb) (.int .u8 (yv : Int)) (Ne.symm (ty_ne hcg HRES2.out (by decide))))
              have HB3 := Lib.hid (HB2.out.setCell (p := ⟨go, bb, none⟩) (show w.heap.size ≤ go from (HSR2.out.oth.lt go rfl).1) (.int .u8 (yv : Int)))
              have HSR4 : Hid (ShR (w1.setCell ⟨go, bb, none⟩ (.int .u8 (yv : Int))).drew w.heap.size sb gm go (.slice CA k c0) (.slice (some ad2) t.ws.length c1) t.codes t.ws t.main (t.other.set bb yv)) := HSR3.out.drew
              have HLN4 := Lib.hid HLN3.out.drew
              have HRES4 := Lib.hid HRES3.out.drew
              have HB4 := Lib.hid HB3.out.drew
              have s0 := HSR4.out.box.cell (j := 0) rfl
              obtain ⟨W, hW⟩ : ∃ x, x = (w1.setCell ⟨go, bb, none⟩ (.int .u8 (yv : Int))).drew := ⟨_, rfl⟩
              rw [← hW]
              rw [← hW] at HSR4 HLN4 HRES4 HB4 s0
              clear hW hcg HSR3 HLN3 HRES3 HB3 HSR2 HLN2 HRES2 HB2 l1 c40 c41 c42 c43 s5 o0 o1
              go_wp2_with (refine app1z el_errno rfl (.tmp 88) (.tmp 90) rfl rfl HSR4.out.cod (.int .i64 (r.e : Int)) 24 (vn .i64 (t.codes ++ [r.e])) (k + 1) (vn_snoc _ _) (by simp [vn, hok.cl, Hid]) _ rfl (by simp) rfl (by unfold maxLen; omega) (by omega) (by have := HB4.out.size; omega) ?_; intro A5 c5 w5 ho5 hbe5 hg5 hat5
                           obtain ⟨e1, e2, e3, e4, e5, e6⟩ := ref_after HSR4.out HLN4.out HRES4.out HSB.out HB4.out ho5 hbe5 hg5
                           have E1 := Lib.hid e1; have E2 := Lib.hid e2; have E3 := Lib.hid e3; have E4 := Lib.hid e4
                           clear ho5 hbe5 hg5 hat5 e1 e2 e3 e4 HSR4 HLN4 HRES4 HB4 s0)
              go_roundw
              case rel => exact ⟨k + 1, c5, _, A5, _, _, _, by omega, by go_num, by rw [HNX.out]; exact E1.out, by rw [HNX.out]; exact E2.out, E3.out, HSB.out, E4.out⟩
              case measure => simp [intOf] <;> omega

            · rw [if_neg h4] at cd
              have hoth : othS t.ws t.other kind r = t.other := by
                unfold othS
                rw [if_neg]
                intro e
                have e' := HR'.out
                rw [e.1] at e'
                unfold doS at e'
                rw [if_neg (by decide), if_neg (by decide), if_pos rfl, if_pos (by have := fun q => h4 ⟨e.1, q⟩; omega)] at e'
                have e2 := e.2
                rw [← e'] at e2
                cases e2
              rw [hoth] at HNX
              clear hoth h4
              go_wp2_with (first
                | (go_at_call 39; refine cd.mono ?_; clear cd; rintro e w1 ⟨rfl, yV', qV', hl1, hg1⟩
                   have hbx1 := HBX.out.chLine HLN1.out hg1 (by decide) (by decide)
                   have hsr2 := HSR1.out.chLine HLN1.out hg1
                   have hres2 := HRES1.out.chLine HLN1.out hg1 (by decide) (by decide)
                   have HB2 := Lib.hid (HB1.out.trans (hg1.below (by have := HHS.out; simp; omega) (fun b _ e => HLN1.out.low (by omega) e)))
                   have x0 := hbx1.cell (j := 0) rfl; have s0 := hsr2.box.cell (j := 0) rfl
                   have HSR4 := Lib.hid hsr2; have HLN4 := Lib.hid hl1; have HRES4 := Lib.hid hres2; have HB4 := HB2
                   clear hl1 hg1 hbx1 hsr2 hres2 HB1 HSR1 HLN1 HRES1 HBX HB2)
                | (refine app1z el_errno rfl (.tmp 88) (.tmp 90) rfl rfl HSR4.out.cod (.int .i64 (r.e : Int)) 24 (vn .i64 (t.codes ++ [r.e])) (k + 1) (vn_snoc _ _) (by simp [vn, hok.cl, Hid]) _ rfl (by simp) rfl (by unfold maxLen; omega) (by omega) (by have := HB4.out.size; omega) ?_; intro A5 c5 w5 ho5 hbe5 hg5 hat5
                   obtain ⟨e1, e2, e3, e4, e5, e6⟩ := ref_after HSR4.out HLN4.out HRES4.out HSB.out HB4.out ho5 hbe5 hg5
                   have E1 := Lib.hid e1; have E2 := Lib.hid e2; have E3 := Lib.hid e3; have E4 := Lib.hid e4
                   clear ho5 hbe5 hg5 hat5 e1 e2 e3 e4 HSR4 HLN4 HRES4 HB4 s0))

              go_roundw
              case rel => exact ⟨k + 1, c5, _, A5, _, _, _, by omega, by go_num, by rw [HNX.out]; exact E1.out, by rw [HNX.out]; exact E2.out, E3.out, HSB.out, E4.out⟩
              case measure => simp [intOf] <;> omega

      · obtain rfl : n = k := by omega
        have hok := ShOk.play HL.out mode n (by have := HN.out; omega)
        obtain ⟨t, ht⟩ : ∃ t, playS mode l n = t := ⟨_, rfl⟩
        rw [ht] at hsr hln hok
        have HT := Lib.hid ht
        clear ht
        have hle1 := hok.le1; have hle2 := hok.le2; have hle3 := hok.le3; have hle4 := hok.le4
        have b1 := hsr.box.cell (j := 1) rfl
        have f1 := hsr.box.free 1
        have ct := ref_Told w.heap.size (w.heap.size + 1) mode t.s t.g t.p t.k _ yV qV wo hln WA t.ws.length c1 rfl
        obtain ⟨TV, hTV⟩ : ∃ x : Nat, toldS mode t = x := ⟨_, rfl⟩
        rw [show (if mode = 1 then t.ws.length else t.k) = TV from hTV] at ct
        have HTV := Lib.hid hTV
        have hl1 : LineR (wo.setCell ⟨sb, 1, none⟩ (.int .i64 (TV : Int))) w.heap.size (w.heap.size + 1) _ yV qV mode t.s t.g t.p t.k := hln.setTy (b := sb) (j := 1) hsr.box (by decide) (by decide) (.int .i64 (TV : Int))
        have cg := ref_Got w.heap.size (w.heap.size + 1) mode t.s t.g t.p t.k _ yV qV (wo.setCell ⟨sb, 1, none⟩ (.int .i64 (TV : Int))) hl1 (by omega)
        have HX1 : Hid (BoxV (wo.setCell ⟨sb, 1, none⟩ (.int .i64 (TV : Int))) sb 48 [.slice CA n c0, .int .i64 (TV : Int), .int .i64 0, .int .i64 0, .slice (some ⟨gm, 0, none⟩) 8 8, .slice (some ⟨go, 0, none⟩) 8 8]) := hsr.box.set 1 _
        have hnc := hsr.cod.notBox hsr.box (by decide)
        obtain ⟨cgm, hcg⟩ := hsr.gmTy
        obtain ⟨cgo, hco⟩ := hsr.goTy
        have hng : (Value.slice (some ⟨gm, 0, none⟩) 8 8).ownBlock ≠ some sb := fun e => by injection e with e; exact ty_ne hcg hsr.box (by decide) e
        have hno : (Value.slice (some ⟨go, 0, none⟩) 8 8).ownBlock ≠ some sb := fun e => by injection e with e; exact ty_ne hco hsr.box (by decide) e
        have HCOD := Lib.hid (hsr.cod.setOther ⟨sb, 1, none⟩ (.int .i64 (TV : Int)) hnc)
        have HMAI := Lib.hid (hsr.mai.setOther ⟨sb, 1, none⟩ (.int .i64 (TV : Int)) hng)
        have HOTH := Lib.hid (hsr.oth.setOther ⟨sb, 1, none⟩ (.int .i64 (TV : Int)) hno)
        have HRE := Lib.hid (hres.setOther (c := sb) (j := 1) (.int .i64 (TV : Int)) (by omega))
        have HBE := Lib.hid (hbel.setCell (p := ⟨sb, 1, none⟩) (by simp; omega) (.int .i64 (TV : Int)))
        have HNC := Lib.hid hnc; have HNG := Lib.hid hng; have HNO := Lib.hid hno
        have HL1 := Lib.hid hl1
        have HSB := Lib.hid hsb
        clear hTV hsr hln hres hbel hl1 hcg hco hlt hk hnc hng hno hsb
        go_wp2_with (first
          | (go_at_call 40; refine ct.mono ?_; clear ct; rintro e w2 ⟨rfl, rfl⟩)
          | (go_at_call 41; refine cg.mono ?_; clear cg; rintro e w2 ⟨rfl, hm⟩
             have HX2 : Hid (BoxV w2 sb 48 [.slice CA n c0, .int .i64 (TV : Int), .int .i64 0, .int .i64 0, .slice (some ⟨gm, 0, none⟩) 8 8, .slice (some ⟨go, 0, none⟩) 8 8]) := by obtain ⟨m, rfl⟩ := hm; exact HX1.out.drewN m
             have HL2 : Hid (LineR w2 w.heap.size (w.heap.size + 1) (.slice WA t.ws.length c1) yV qV mode t.s t.g t.p t.k) := by obtain ⟨m, rfl⟩ := hm; exact HL1.out.drewN m
             have HCOD2 : Hid (Own w2 w.heap.size 24 (.slice CA n c0) (vn .i64 t.codes)) := by obtain ⟨m, rfl⟩ := hm; exact HCOD.out.drewN m
             have HMAI2 : Hid (Own w2 w.heap.size 5 (.slice (some ⟨gm, 0, none⟩) 8 8) (vn .u8 t.main)) := by obtain ⟨m, rfl⟩ := hm; exact HMAI.out.drewN m
             have HOTH2 : Hid (Own w2 w.heap.size 5 (.slice (some ⟨go, 0, none⟩) 8 8) (vn .u8 t.other)) := by obtain ⟨m, rfl⟩ := hm; exact HOTH.out.drewN m
             have HRE2 : Hid (BoxV w2 w.heap.size 48 [.slice none 0 0, .int .i64 0, .int .i64 0, .int .i64 0, .slice none 0 0, .slice none 0 0]) := by obtain ⟨m, rfl⟩ := hm; exact HRE.out.drewN m
             have HBE2 : Hid (Below w.heap.size w w2) := by obtain ⟨m, rfl⟩ := hm; exact below_drewN HBE.out m
             have q2 := HX2.out.cell (j := 2) rfl; have h2 := HX2.out.free 2
             have hx3 := HX2.out.set 2 (.int .i64 (t.g : Int))
             have q3 := hx3.cell (j := 3) rfl; have h3' := hx3.free 3
             have l5 := (HL2.out.setTy (b := sb) (j := 2) HX2.out (by decide) (by decide) (.int .i64 (t.g : Int))).box.cell (j := 5) rfl
             have hx4 := hx3.set 3 (.int .i64 (t.p : Int))
             have a0 := hx4.cell (j := 0) rfl; have a1 := hx4.cell (j := 1) rfl; have a2 := hx4.cell (j := 2) rfl
             have a3 := hx4.cell (j := 3) rfl; have a4 := hx4.cell (j := 4) rfl; have a5 := hx4.cell (j := 5) rfl
             have hre4 := (HRE2.out.setOther (c := sb) (j := 2) (.int .i64 (t.g : Int)) (by have := HSB.out; omega)).setOther (c := sb) (j := 3) (.int .i64 (t.p : Int)) (by have := HSB.out; omega)
             have r0 := hre4.cell (j := 0) rfl; have r1 := hre4.cell (j := 1) rfl; have r2 := hre4.cell (j := 2) rfl
             have r3 := hre4.cell (j := 3) rfl; have r4 := hre4.cell (j := 4) rfl; have r5 := hre4.cell (j := 5) rfl
             have g0 := hre4.free 0; have g1 := hre4.free 1; have g2 := hre4.free 2; have g3 := hre4.free 3; have g4 := hre4.free 4; have g5 := hre4.free 5
             have HRE5 := Lib.hid hre4
             have HCOD5 := Lib.hid ((HCOD2.out.setOther ⟨sb, 2, none⟩ (.int .i64 (t.g : Int)) HNC.out).setOther ⟨sb, 3, none⟩ (.int .i64 (t.p : Int)) HNC.out)
             have HMAI5 := Lib.hid ((HMAI2.out.setOther ⟨sb, 2, none⟩ (.int .i64 (t.g : Int)) HNG.out).setOther ⟨sb, 3, none⟩ (.int .i64 (t.p : Int)) HNG.out)
             have HOTH5 := Lib.hid ((HOTH2.out.setOther ⟨sb, 2, none⟩ (.int .i64 (t.g : Int)) HNO.out).setOther ⟨sb, 3, none⟩ (.int .i64 (t.p : Int)) HNO.out)
             have HBE5 := Lib.hid ((HBE2.out.setCell (p := ⟨sb, 2, none⟩) (by have := HSB.out; simp; omega) (.int .i64 (t.g : Int))).setCell (p := ⟨sb, 3, none⟩) (by have := HSB.out; simp; omega) (.int .i64 (t.p : Int)))
             clear hm hx3 hx4 hre4 HX1 HL1 HCOD HMAI HOTH HRE HBE HX2 HL2 HCOD2 HMAI2 HOTH2 HRE2 HBE2 b1 f1))
        have hF := (((((HRE5.out.set 0 (.slice CA n c0)).set 1 (.int .i64 (TV : Int))).set 2 (.int .i64 (t.g : Int))).set 3 (.int .i64 (t.p : Int))).set 4 (.slice (some ⟨gm, 0, none⟩) 8 8)).set 5 (.slice (some ⟨go, 0, none⟩) 8 8)
        have F0 := hF.cell (j := 0) rfl; have F1 := hF.cell (j := 1) rfl; have F2 := hF.cell (j := 2) rfl
        have F3 := hF.cell (j := 3) rfl; have F4 := hF.cell (j := 4) rfl; have F5 := hF.cell (j := 5) rfl
        have hn1 := HCOD5.out.notBox HRE5.out (by decide)
        have hn2 := HMAI5.out.notBox HRE5.out (by decide)
        have hn3 := HOTH5.out.notBox HRE5.out (by decide)
        refine bodyPost_ret (v := .agg #[.slice CA n c0, .int .i64 (TV : Int), .int .i64 (t.g : Int), .int .i64 (t.p : Int), .slice (some ⟨gm, 0, none⟩) 8 8, .slice (some ⟨go, 0, none⟩) 8 8]) (by simp [results, Try.f22, go_sem, F0, F1, F2, F3, F4, F5]) rfl ?_
        refine ⟨_, gm, go, by rw [HT.out, HTV.out], ?_, ?_, ?_, ?_⟩
        · rw [HT.out]; exact (((((HCOD5.out.setOther _ _ hn1).setOther _ _ hn1).setOther _ _ hn1).setOther _ _ hn1).setOther _ _ hn1).setOther _ _ hn1
        · rw [HT.out]; exact (((((HMAI5.out.setOther _ _ hn2).setOther _ _ hn2).setOther _ _ hn2).setOther _ _ hn2).setOther _ _ hn2).setOther _ _ hn2
        · rw [HT.out]; exact (((((HOTH5.out.setOther _ _ hn3).setOther _ _ hn3).setOther _ _ hn3).setOther _ _ hn3).setOther _ _ hn3).setOther _ _ hn3
        · exact (((((HBE5.out.setCell (Nat.le_refl _) _).setCell (Nat.le_refl _) _).setCell (Nat.le_refl _) _).setCell (Nat.le_refl _) _).setCell (Nat.le_refl _) _).setCell (Nat.le_refl _) _

end Go.Proofs.Ytglcljlafioleaa

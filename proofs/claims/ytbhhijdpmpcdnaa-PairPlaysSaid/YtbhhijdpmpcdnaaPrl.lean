/-
  quipuref.Pair.
-/
import Derived.Test.YtbhhijdpmpcdnaaPrk
import Derived.Deep.DeepCutAuto
import Derived.Deep.CutRange
set_option linter.unusedVariables false
namespace Go.Proofs.Ytbhhijdpmpcdnaa
open Go.RowKit

theorem hq_alloc (w : World) (o : Obj) (i : Nat) : (w.alloc o).heap[i]? = if i = w.heap.size then some o else w.heap[i]? := Array.getElem?_push
theorem hq_size (w : World) (o : Obj) : (w.alloc o).heap.size = w.heap.size + 1 := by simp
theorem hq_drew (w : World) : w.drew.heap = w.heap := rfl
theorem makeP24 (w : World) : (Instr.makeSlice 33 (.int .i64 24) (.int .i64 24)).run Try.prog w = .ok (.slice (some ⟨w.heap.size, 0, none⟩) 24 24) (w.alloc (.cells (madeCells #[.int .u8 0] 24) 5)) := run_make_row' 33 5 (.int .u8 0) 1 Try.underlying33 (by kernel_rfl) rfl .i64 .i64 24 (by omega) (by omega) w
theorem made_listR (z : Value) (n : Nat) : (madeCells #[z] n).toList = List.replicate n z := by
  apply List.ext_getElem?
  intro j
  simp only [madeCells, Array.toList_map, List.getElem?_map, List.getElem?_replicate]
  by_cases hj : j < n
  · simp [hj, Nat.mod_one]
  · simp [hj]
theorem ownP24 {W : World} {B g : Nat} (hg : W.heap[g]? = some (.cells (madeCells #[.int .u8 0] 24) 5 (0, 0))) (hB : B ≤ g) : Own W B 5 (.slice (some ⟨g, 0, none⟩) 24 24) (vn .u8 (List.replicate 24 0)) :=
  ⟨by simp [vn], .inr ⟨g, 24, _, by simp [vn], hB, hg, by simp [vn], by unfold maxLen; omega, by simp [madeCells], by rw [made_listR]; simp [vn]⟩⟩
structure StR (w W : World) (mode sg : Nat) (S0 S1 : Ab) : Prop where
  line : LineR W w.heap.size (w.heap.size + 1) (.slice none 0 0) (.slice none 0 0) (.slice none 0 0) mode 0 0 0 0
  a0 : ArrB W w.heap.size S0.a S0.g (List.replicate 24 0) (-1)
  a1 : ArrB W w.heap.size S1.a S1.g (List.replicate 24 0) (-1)
  sit : BoxV W sg 56 [.pointer (some ⟨S0.a, 0, none⟩), .pointer (some ⟨S1.a, 0, none⟩)]
  ne : S0.a ≠ S1.a ∧ S0.g ≠ S1.g
  low : w.heap.size ≤ S0.a ∧ w.heap.size ≤ S1.a
  res : BoxV W w.heap.size 25 [.slice none 0 0, .int .i64 0, .int .i64 0]
  bel : Below w.heap.size w W
theorem pref_start {w W : World} {mode sg : Nat} {S0 S1 : Ab} (hs : w.heap.size ≤ W.heap.size) (ho : W.os = w.os ∧ W.tape = w.tape ∧ W.output = w.output) (hB : ∀ b, b < w.heap.size → W.heap[b]? = w.heap[b]?)
    (h0 : W.heap[w.heap.size]? = some (.cells #[.slice none 0 0, .int .i64 0, .int .i64 0] 25 (0, 0)))
    (h1 : W.heap[w.heap.size + 1]? = some (.cells #[.int .i64 (mode : Int), .slice none 0 0, .int .i64 0, .slice none 0 0, .slice none 0 0, .int .i64 0, .int .i64 0] 55 (0, 0)))
    (h2 : W.heap[S0.a]? = some (.cells #[.slice (some ⟨S0.g, 0, none⟩) 24 24, .int .i64 (-1)] 58 (0, 0)))
    (h3 : W.heap[S0.g]? = some (.cells (madeCells #[.int .u8 0] 24) 5 (0, 0)))
    (h4 : W.heap[S1.a]? = some (.cells #[.slice (some ⟨S1.g, 0, none⟩) 24 24, .int .i64 (-1)] 58 (0, 0)))
    (h5 : W.heap[S1.g]? = some (.cells (madeCells #[.int .u8 0] 24) 5 (0, 0)))
    (h6 : W.heap[sg]? = some (.cells #[.pointer (some ⟨S0.a, 0, none⟩), .pointer (some ⟨S1.a, 0, none⟩)] 56 (0, 0)))
    (ne : S0.a ≠ S1.a ∧ S0.g ≠ S1.g) (lo : w.heap.size ≤ S0.a ∧ w.heap.size ≤ S0.g ∧ w.heap.size ≤ S1.a ∧ w.heap.size ≤ S1.g) (n2 : S0.a ≠ S0.g ∧ S1.a ≠ S1.g) : StR w W mode sg S0 S1 :=
  ⟨⟨h1, OwnQ.nil _ _ _ _, OwnQ.nil _ _ _ _, fun b hb => (by cases hb), Nat.le_refl _, Nat.le_refl _⟩, ⟨h2, ownP24 h3 lo.2.1, n2.1⟩, ⟨h4, ownP24 h5 lo.2.2.2, n2.2⟩, h6, ne, ⟨lo.1, lo.2.2.1⟩, h0, ⟨ho.1, ho.2.1, ho.2.2, hs, hB⟩⟩
theorem StR.ref {w W : World} {mode sg : Nat} {S0 S1 : Ab} (h : StR w W mode sg S0 S1) : RefR (W.alloc (.cells #[.slice none 0 0, .int .i64 0, .int .i64 0] 25)) w.heap.size (w.heap.size + 1) sg W.heap.size (.slice none 0 0) (.slice none 0 0) (.slice none 0 0) (.slice none 0 0) mode S0 S1 ⟨[], [], 0, 0, 0, 0, startB, startB, 0, 0⟩ := by
  have hc : Ch W (W.alloc (.cells #[.slice none 0 0, .int .i64 0, .int .i64 0] 25)) (fun _ => False) := (Ch.refl _ _).alloc _
  exact ⟨⟨0, fun _ => rfl, h.line.ch hc (fun e => e) (fun _ _ e => e) (fun _ _ e => e)⟩, OwnQ.nil _ _ _ _, h.a0.ch hc (fun e => e) (fun e => e), h.a1.ch hc (fun e => e) (fun e => e), h.sit.ch hc (fun e => e), BoxV.new W _ _, h.ne, ⟨Nat.le_succ _, h.bel.size, h.low.1, h.low.2⟩, by simp [startB], by simp [startB]⟩
section
variable {w w' : World} {B lb sg ob mode : Nat} {DV WV yV qV : Value} {S0 S1 : Ab} {t : PrT (List Nat × Int)} {E : TypeId}
theorem RefR.fLow (h : RefR w B lb sg ob DV WV yV qV mode S0 S1 t) {b : Nat} (hb : RefF lb ob WV yV qV S0 S1 b) : B ≤ b := by
  obtain ⟨p, hp, hl⟩ := h.line
  obtain ⟨l1, l2, l3, l4⟩ := h.low
  rcases hb with hb | hb | rfl | rfl | rfl | rfl | rfl
  · exact hl.low l1 hb
  · exact (h.wri.lt b hb).1
  · exact l3
  · exact (h.a0.row.lt _ rfl).1
  · exact l4
  · exact (h.a1.row.lt _ rfl).1
  · exact l2
theorem RefR.rowCh {k base : Nat} {v : Value} {xss : List (List Value)} (h : RefR w B lb sg ob DV WV yV qV mode S0 S1 t) (hc : Ch w w' (RefF lb ob WV yV qV S0 S1)) (ho : OwnK w base E k v xss) (h1 : ¬ RefT E) : OwnK w' base E k v xss :=
  ho.ch hc (fun g hg hf => by
    obtain ⟨c1, e1⟩ := ho.ty hg
    obtain ⟨c2, E2, e2, h2⟩ := h.fTy hf
    rw [e1] at e2
    injection e2 with e2
    injection e2 with _ e
    subst e
    exact h1 h2)
/-- the result's box: it is another one than the answer's -/
theorem RefR.resCh {b : Nat} {vs : List Value} (h : RefR w B lb sg ob DV WV yV qV mode S0 S1 t) (hc : Ch w w' (RefF lb ob WV yV qV S0 S1)) (hb : BoxV w b 25 vs) (hne : b ≠ ob) : BoxV w' b 25 vs :=
  hb.ch hc (fun hf => by
    obtain ⟨p, hp, hl⟩ := h.line
    obtain ⟨c0, e0⟩ := h.a0.gTy
    obtain ⟨c1, e1⟩ := h.a1.gTy
    rcases hf with hf | hf | hf | hf | hf | hf | hf
    · obtain ⟨cur', T', h3, h4⟩ := hl.fTy hf
      rw [show w.heap[b]? = _ from hb] at h3
      injection h3 with h3
      injection h3 with _ e
      subst e
      rcases h4 with h4 | h4
      · exact absurd h4 (by decide)
      · exact absurd h4 (by decide)
    · obtain ⟨c, e⟩ := h.wri.ty hf; exact ty_ne e hb (by decide) rfl
    · subst hf; exact ty_ne h.a0.box hb (by decide) rfl
    · subst hf; exact ty_ne e0 hb (by decide) rfl
    · subst hf; exact ty_ne h.a1.box hb (by decide) rfl
    · subst hf; exact ty_ne e1 hb (by decide) rfl
    · exact hne hf)
end
theorem done_noT : ¬ RefT 37 := by unfold RefT; decide
set_option maxRecDepth 100000 in
set_option maxHeartbeats 8000000 in
theorem ref_Pair (mode d : Nat) (A : Option Addr) (n c : Nat) (l : List StS) (w : World) (h : ReadsK w w.heap.size 4 A n (l.map stC)) (hl : ∀ m ∈ l, m.val < 256) (hn : n ≤ 100) :
    Calls Try.prog 10 #[.int .i64 (mode : Int), .int .i64 (d : Int), .slice A n c] w (fun e w' => ∃ A1 c1, e = .returned (.agg #[.slice A1 n c1, .int .i64 (toldF mode (playG (mvB d) mode d startB l n) : Int), .int .i64 ((playG (mvB d) mode d startB l n).main : Int)]) ∧ OwnK w' w.heap.size 37 2 (.slice A1 n c1) ((playG (mvB d) mode d startB l n).outs.map dnC) ∧ Below w.heap.size w w') := by
  have HR := Lib.hid h
  have HL := Lib.hid hl
  have HN : Hid (l.length = n) := by have := h.len; rwa [List.length_map] at this
  have hmk := makeP24
  clear h hl
  go_enter Try.func10, Try.ntmps10
  go_wp2
  go_cut [8] (fun sv wc => ∃ (sg : Nat) (S0 S1 : Ab), sv = .slice (some ⟨sg, 0, none⟩) 2 2 ∧ StR w wc mode sg S0 S1)
  case first =>
    go_region
    all_goals (try go_wp2_with fail)
    all_goals go_meet
    all_goals first
      | (refine ⟨_, ⟨w.heap.size + 3, w.heap.size + 2⟩, ⟨w.heap.size + 5, w.heap.size + 4⟩, rfl, pref_start ?_ ⟨rfl, rfl, rfl⟩ ?_ ?_ ?_ ?_ ?_ ?_ ?_ ?_ ⟨by simp only; omega, by simp only; omega⟩ ⟨by simp only; omega, by simp only; omega, by simp only; omega, by simp only; omega⟩ ⟨by simp only; omega, by simp only; omega⟩⟩; (simp only [hq_drew, hq_size]; omega); (intro q hq; simp only [hq_drew, hq_alloc, hq_size]; repeat rw [if_neg (by omega)]); all_goals (simp only [hq_drew, hq_alloc, hq_size]; repeat (first | rw [if_pos trivial] | rw [if_pos (by omega)] | rw [if_neg (by omega)])); all_goals (first | done | rfl))
      | (refine ⟨_, ⟨w.heap.size + 4, w.heap.size + 2⟩, ⟨w.heap.size + 5, w.heap.size + 3⟩, rfl, pref_start ?_ ⟨rfl, rfl, rfl⟩ ?_ ?_ ?_ ?_ ?_ ?_ ?_ ?_ ⟨by simp only; omega, by simp only; omega⟩ ⟨by simp only; omega, by simp only; omega, by simp only; omega, by simp only; omega⟩ ⟨by simp only; omega, by simp only; omega⟩⟩; (simp only [hq_drew, hq_size]; omega); (intro q hq; simp only [hq_drew, hq_alloc, hq_size]; repeat rw [if_neg (by omega)]); all_goals (simp only [hq_drew, hq_alloc, hq_size]; repeat (first | rw [if_pos trivial] | rw [if_pos (by omega)] | rw [if_neg (by omega)])); all_goals (first | done | rfl))
      | (refine ⟨_, ⟨w.heap.size + 5, w.heap.size + 2⟩, ⟨w.heap.size + 4, w.heap.size + 3⟩, rfl, pref_start ?_ ⟨rfl, rfl, rfl⟩ ?_ ?_ ?_ ?_ ?_ ?_ ?_ ?_ ⟨by simp only; omega, by simp only; omega⟩ ⟨by simp only; omega, by simp only; omega, by simp only; omega, by simp only; omega⟩ ⟨by simp only; omega, by simp only; omega⟩⟩; (simp only [hq_drew, hq_size]; omega); (intro q hq; simp only [hq_drew, hq_alloc, hq_size]; repeat rw [if_neg (by omega)]); all_goals (simp only [hq_drew, hq_alloc, hq_size]; repeat (first | rw [if_pos trivial] | rw [if_pos (by omega)] | rw [if_neg (by omega)])); all_goals (first | done | rfl))
      | (refine ⟨_, ⟨w.heap.size + 4, w.heap.size + 3⟩, ⟨w.heap.size + 5, w.heap.size + 2⟩, rfl, pref_start ?_ ⟨rfl, rfl, rfl⟩ ?_ ?_ ?_ ?_ ?_ ?_ ?_ ?_ ⟨by simp only; omega, by simp only; omega⟩ ⟨by simp only; omega, by simp only; omega, by simp only; omega, by simp only; omega⟩ ⟨by simp only; omega, by simp only; omega⟩⟩; (simp only [hq_drew, hq_size]; omega); (intro q hq; simp only [hq_drew, hq_alloc, hq_size]; repeat rw [if_neg (by omega)]); all_goals (simp only [hq_drew, hq_alloc, hq_size]; repeat (first | rw [if_pos trivial] | rw [if_pos (by omega)] | rw [if_neg (by omega)])); all_goals (first | done | rfl))
      | (refine ⟨_, ⟨w.heap.size + 5, w.heap.size + 3⟩, ⟨w.heap.size + 4, w.heap.size + 2⟩, rfl, pref_start ?_ ⟨rfl, rfl, rfl⟩ ?_ ?_ ?_ ?_ ?_ ?_ ?_ ?_ ⟨by simp only; omega, by simp only; omega⟩ ⟨by simp only; omega, by simp only; omega, by simp only; omega, by simp only; omega⟩ ⟨by simp only; omega, by simp only; omega⟩⟩; (simp only [hq_drew, hq_size]; omega); (intro q hq; simp only [hq_drew, hq_alloc, hq_size]; repeat rw [if_neg (by omega)]); all_goals (simp only [hq_drew, hq_alloc, hq_size]; repeat (first | rw [if_pos trivial] | rw [if_pos (by omega)] | rw [if_neg (by omega)])); all_goals (first | done | rfl))
      | (refine ⟨_, ⟨w.heap.size + 5, w.heap.size + 4⟩, ⟨w.heap.size + 3, w.heap.size + 2⟩, rfl, pref_start ?_ ⟨rfl, rfl, rfl⟩ ?_ ?_ ?_ ?_ ?_ ?_ ?_ ?_ ⟨by simp only; omega, by simp only; omega⟩ ⟨by simp only; omega, by simp only; omega, by simp only; omega, by simp only; omega⟩ ⟨by simp only; omega, by simp only; omega⟩⟩; (simp only [hq_drew, hq_size]; omega); (intro q hq; simp only [hq_drew, hq_alloc, hq_size]; repeat rw [if_neg (by omega)]); all_goals (simp only [hq_drew, hq_alloc, hq_size]; repeat (first | rw [if_pos trivial] | rw [if_pos (by omega)] | rw [if_neg (by omega)])); all_goals (first | done | rfl))
  case rest =>
    obtain ⟨sg, S0, S1, rfl, hst⟩ := hcut
    have hP0 := hst.ref
    have hX0 := hst.res.alloc (.cells #[.slice none 0 0, .int .i64 0, .int .i64 0] 25)
    have hB0 := hst.bel.alloc hst.bel.size (.cells #[.slice none 0 0, .int .i64 0, .int .i64 0] 25)
    have hOB := hst.res.lt
    obtain ⟨ob, hob⟩ : ∃ p, wc.heap.size = p := ⟨_, rfl⟩
    rw [hob] at hP0 hOB
    have HP0 := Lib.hid hP0
    have HX0 := Lib.hid hX0
    have HB0 := Lib.hid hB0
    have HOB := Lib.hid hOB
    have HOBE := Lib.hid hob
    clear hst hP0 hX0 hB0 hOB hob hmk
    go_wp2
    simp only [HOBE.out]
    go_loopw [25] (fun iv wr => ∃ (k : Nat) (DV WV yV qV : Value), k ≤ n ∧ iv = .int .i64 (k : Int) ∧ RefR wr w.heap.size (w.heap.size + 1) sg ob DV WV yV qV mode S0 S1 (playG (mvB d) mode d startB l k) ∧ OwnK wr w.heap.size 37 2 DV ((playG (mvB d) mode d startB l k).outs.map dnC) ∧ BoxV wr w.heap.size 25 [.slice none 0 0, .int .i64 0, .int .i64 0] ∧ Below w.heap.size w wr) (fun iv _ => n - (intOf iv).toNat)
    case atStart => exact ⟨0, _, _, _, _, Nat.zero_le _, rfl, HP0.out, OwnK.nil _ _ _ _, HX0.out, HB0.out⟩
    case round =>
      obtain ⟨k, DV, WV, yV, qV, hk, rfl, hpr, hown, hbx, hbel⟩ := hrel
      obtain ⟨wo, rfl⟩ : ∃ x, x = wr := ⟨_, rfl⟩
      clear HP0 HX0 HB0 HOBE
      by_cases hlt : k < n
      · obtain ⟨ad, xs, rfl, hadb, hx, _, hc⟩ := (HR.out.below hbel).at_ hlt
        rw [List.getElem?_map] at hx
        obtain ⟨⟨kind, site, block, v⟩, hm, rfl⟩ := Option.map_eq_some_iff.1 hx
        have d0 := hc 0 _ rfl
        have d1 := hc 1 _ rfl
        have d2 := hc 2 _ rfl
        have d3 := hc 3 _ rfl
        rw [Nat.add_zero] at d0
        rw [add_offP _ _ _ (by decide)] at d1 d2 d3
        have hok := PrOk.play (mvB d) HL.out mode d startB k (by have := HN.out; omega)
        have hnx := playG_next (mvB d) (mode := mode) (d := d) (a := startB) hm
        generalize playG (mvB d) mode d startB l k = t at *
        have i0 : (0 : Int) ≤ (k : Int) := by omega
        have i1 : (k : Int) < (n : Int) := by omega
        have hbs : BoxV (wo.alloc (.cells #[.int .i64 kind, .int .i64 site, .int .i64 block, .int .u8 (v : Int)] 35)) wo.heap.size 35 [.int .i64 kind, .int .i64 site, .int .i64 block, .int .u8 (v : Int)] := BoxV.new wo _ _
        have x0 := hbs.cell (j := 0) rfl; have x1 := hbs.cell (j := 1) rfl; have x2 := hbs.cell (j := 2) rfl; have x3 := hbs.cell (j := 3) rfl
        have hp1 := hpr.alloc (.cells #[.int .i64 kind, .int .i64 site, .int .i64 block, .int .u8 (v : Int)] 35)
        have cs := ref_paired w.heap.size (w.heap.size + 1) sg ob mode d DV WV yV qV S0 S1 t ⟨kind, site, block, v⟩ (wo.alloc (.cells #[.int .i64 kind, .int .i64 site, .int .i64 block, .int .u8 (v : Int)] 35)).drew (hp1.drewN 1) k hok (by omega)
        unfold stV at cs
        have o0 := hp1.out.cell (j := 0) rfl
        have HP1 := Lib.hid (hp1.drewN 1)
        have HOW := Lib.hid ((hown.below ((Below.refl _ wo).alloc (Nat.le_refl _) (.cells #[.int .i64 kind, .int .i64 site, .int .i64 block, .int .u8 (v : Int)] 35)) (Nat.le_refl _)).below (below_drewN (Below.refl (wo.alloc (.cells #[.int .i64 kind, .int .i64 site, .int .i64 block, .int .u8 (v : Int)] 35)).heap.size (wo.alloc (.cells #[.int .i64 kind, .int .i64 site, .int .i64 block, .int .u8 (v : Int)] 35))) 1) (Nat.le_refl _))
        have HBX := Lib.hid ((hbx.alloc (.cells #[.int .i64 kind, .int .i64 site, .int .i64 block, .int .u8 (v : Int)] 35)).drewN 1)
        have HBE := Lib.hid (below_drewN (hbel.alloc (by have := hbel.size; omega) (.cells #[.int .i64 kind, .int .i64 site, .int .i64 block, .int .u8 (v : Int)] 35)) 1)
        have HNX := Lib.hid hnx
        have hol := hok.ol
        have HOL := Lib.hid hol
        clear hx hc hm hnx hpr hown hbx hbel hbs hok hol hp1
        go_wp2
        go_region_law (first
          | (go_simp; go_at_call 17; refine cs.mono ?_; rintro e w2 ⟨ev, vv, WV2, yV2, qV2, rfl, ho2, hp2, hc2⟩; have hown2 := HP1.out.rowCh hc2 HOW.out done_noT; have o2 := hp2.out.cell (j := 0) rfl; have hA2 := hp2.out.alloc (.cells #[.int .i64 (ev : Int), .int .u8 (vv : Int)] 37); have o3 := hA2.cell (j := 0) rfl; have hsz2 : w.heap.size ≤ w2.heap.size := Nat.le_trans HBE.out.size hc2.size)
          | (refine step_app1Kp el_doneP rfl (.tmp 30) (.tmp 36) (by rfl) (by rfl) hown2 #[.int .i64 (ev : Int), .int .u8 (vv : Int)] _ (by first | rfl | (go_simp; done) | (go_simp; rfl)) rfl (by simp [Value.oneCell']) (by have := HOL.out; rw [List.length_map]; unfold maxLen; omega) (by have := HOL.out; rw [List.length_map]; omega) hsz2 ?_; intro v5 w5 ho5 hg5 hat5; obtain ⟨A5, n5, c5, rfl⟩ : ∃ A n c, v5 = Value.slice A n c := (by obtain ⟨A, c, e⟩ := ho5.form; exact ⟨A, _, c, e⟩); have hb5 := hp2.out.ch (Ch.of_grown hg5) (fun e => hown2.notBox hp2.out (by decide) e); have e3 := hb5.cell (j := 0) rfl; have f3 := hb5.free 0))
        all_goals
          rw [dn_snocP] at ho5
          have hF5 : ∀ b, DV.ownBlock = some b → ∀ cur E m, w2.heap[b]? = some (.cells cur E m) → ¬ RefT E ∧ E ≠ 56 := fun b hb cur E m e => by
            obtain rfl := done_ty hown2 hb e
            exact ⟨done_noT, by decide⟩
          have hp5 := (hp2.chTy (Ch.of_grown hg5) hF5).setOut (j := 0) (u := (.slice A5 n5 c5)) (DV' := (.slice A5 n5 c5)) rfl (fun e => e)
          have hbx2 := HP1.out.resCh hc2 HBX.out (by have := HOB.out; omega)
          have hbx5 := (hbx2.ch (Ch.of_grown hg5) (fun e => hown2.notBox hbx2 (by decide) e)).setOther (c := ob) (j := 0) (.slice A5 n5 c5) (by have := HOB.out; omega)
          have hbe5 := ((HBE.out.trans (hc2.below (by have := HBE.out.size; exact this) (fun b _ q => HP1.out.fLow q))).trans ((Ch.of_grown hg5).below hsz2 (fun b _ q => (hown2.lt b q).1))).setCell (p := ⟨ob, 0, none⟩) (by have := HOB.out; simp; omega) (.slice A5 n5 c5)
          have ho6 := ho5.ch ((Ch.refl w5 (fun b => b = ob)).setCell ob 0 (.slice A5 n5 c5) (fun _ => rfl)) (fun b hb e => ho5.notBox hb5 (by decide) (by rw [hb, e]))
          rw [← ho2] at ho6
          have HP5 := Lib.hid hp5
          have HO5 := Lib.hid ho6
          have HX5 := Lib.hid hbx5
          have HB5 := Lib.hid hbe5
          clear hp5 ho5 ho6 hbx2 hbx5 hbe5 hF5 hp2 ho2 hc2 hown2 hg5 hat5 hb5 e3 f3 hA2 o2 o3 x0 x1 x2 x3 d0 d1 d2 d3 o0
          go_wp2
          go_roundw
          case rel => exact ⟨k + 1, (.slice A5 n5 c5), WV2, yV2, qV2, by omega, by go_num, by rw [HNX.out]; exact HP5.out, by rw [HNX.out]; exact HO5.out, HX5.out, HB5.out⟩
          case measure => simp [intOf] <;> omega
      · obtain rfl : n = k := by omega
        have hok := PrOk.play (mvB d) HL.out mode d startB n (by have := HN.out; omega)
        obtain ⟨t, ht⟩ : ∃ t, playG (mvB d) mode d startB l n = t := ⟨_, rfl⟩
        rw [ht] at hpr hown hok
        have HT := Lib.hid ht
        obtain ⟨A2, c2, rfl⟩ : ∃ A c, DV = .slice A n c := by
          obtain ⟨A, c, e⟩ := hown.form
          exact ⟨A, c, by rw [e, List.length_map, hok.ol]⟩
        clear ht hlt hk
        obtain ⟨WA, c1, rfl⟩ := hpr.wri.form
        rw [List.length_map] at hpr
        by_cases hm : t.main = 0
        · obtain ⟨p, hp0, hln⟩ := hpr.line
          have ct := ref_Told w.heap.size (w.heap.size + 1) mode t.s t.g p t.k _ yV qV wo hln WA t.ws.length c1 rfl
          obtain ⟨TV, hTV⟩ : ∃ x : Nat, tellG mode t = x := ⟨_, rfl⟩
          rw [show (if mode = 1 then t.ws.length else t.k) = TV from hTV] at ct
          have hF : Hid (toldF mode t = TV) := by unfold Hid toldF; rw [if_pos hm, hTV]
          have om := hpr.out.cell (j := 2) rfl
          rw [hm] at om
          have ot := hpr.out.cell (j := 1) rfl
          have ft := hpr.out.free 1
          have hob6 := hpr.out.set 1 (.int .i64 (TV : Int))
          have p0 := hob6.cell (j := 0) rfl; have p1 := hob6.cell (j := 1) rfl; have p2 := hob6.cell (j := 2) rfl
          rw [hm] at p2
          have ho6 := hown.ch ((Ch.refl wo (fun b => b = ob)).setCell ob 1 (.int .i64 (TV : Int)) (fun _ => rfl)) (fun b hb e => hown.notBox hpr.out (by decide) (by rw [hb, e]))
          have hx6 := hbx.setOther (c := ob) (j := 1) (.int .i64 (TV : Int)) (by have := HOB.out; omega)
          have hb6 := hbel.setCell (p := ⟨ob, 1, none⟩) (by have := HOB.out; simp; omega) (.int .i64 (TV : Int))
          have HM := Lib.hid hm
          have r0 := hx6.cell (j := 0) rfl; have r1 := hx6.cell (j := 1) rfl; have r2 := hx6.cell (j := 2) rfl
          have f0 := hx6.free 0; have f1 := hx6.free 1; have f2 := hx6.free 2
          have HO6 := Lib.hid ho6
          have HX6 := Lib.hid hx6
          have HB6 := Lib.hid hb6
          clear ho6 hx6 hb6 hpr hown hbx hbel hln hp0 hob6 hTV hm hok
          go_wp2_with (go_at_call 18; refine ct.mono ?_; clear ct; rintro e w2 ⟨rfl, rfl⟩)
          have hF3 := ((HX6.out.set 0 (.slice A2 n c2)).set 1 (.int .i64 (TV : Int))).set 2 (.int .i64 0)
          have F0 := hF3.cell (j := 0) rfl; have F1 := hF3.cell (j := 1) rfl; have F2 := hF3.cell (j := 2) rfl
          have hnb := HO6.out.notBox HX6.out (by decide)
          refine bodyPost_ret (v := .agg #[.slice A2 n c2, .int .i64 (TV : Int), .int .i64 0]) (by simp [results, Try.f10, go_sem, F0, F1, F2]) rfl ?_
          refine ⟨A2, c2, by rw [HT.out, hF.out, HM.out]; rfl, ?_, ?_⟩
          · rw [HT.out]
            exact (HO6.out.ch ((((Ch.refl _ (fun b => b = w.heap.size)).setCell w.heap.size 0 (.slice A2 n c2) (fun _ => rfl)).setCell w.heap.size 1 (.int .i64 (TV : Int)) (fun _ => rfl)).setCell w.heap.size 2 (.int .i64 0) (fun _ => rfl)) (fun b hb e => hnb (by rw [hb, e])))
          · exact (((HB6.out.setCell (Nat.le_refl _) _).setCell (Nat.le_refl _) _).setCell (Nat.le_refl _) _)
        · have hm1 : t.main = 1 := hok.mn.resolve_left hm
          have hF : Hid (toldF mode t = t.told) := by unfold Hid toldF; rw [if_neg hm]
          have p0 := hpr.out.cell (j := 0) rfl; have p1 := hpr.out.cell (j := 1) rfl; have p2 := hpr.out.cell (j := 2) rfl
          rw [hm1] at p2
          have HM := Lib.hid hm1
          have r0 := hbx.cell (j := 0) rfl; have r1 := hbx.cell (j := 1) rfl; have r2 := hbx.cell (j := 2) rfl
          have f0 := hbx.free 0; have f1 := hbx.free 1; have f2 := hbx.free 2
          have HO6 := Lib.hid hown
          have HX6 := Lib.hid hbx
          have HB6 := Lib.hid hbel
          clear hpr hown hbx hbel hm hm1 hok
          go_wp2
          have hF3 := ((HX6.out.set 0 (.slice A2 n c2)).set 1 (.int .i64 (t.told : Int))).set 2 (.int .i64 1)
          have F0 := hF3.cell (j := 0) rfl; have F1 := hF3.cell (j := 1) rfl; have F2 := hF3.cell (j := 2) rfl
          have hnb := HO6.out.notBox HX6.out (by decide)
          refine bodyPost_ret (v := .agg #[.slice A2 n c2, .int .i64 (t.told : Int), .int .i64 1]) (by simp [results, Try.f10, go_sem, F0, F1, F2]) rfl ?_
          refine ⟨A2, c2, by rw [HT.out, hF.out, HM.out]; rfl, ?_, ?_⟩
          · rw [HT.out]
            exact (HO6.out.ch ((((Ch.refl _ (fun b => b = w.heap.size)).setCell w.heap.size 0 (.slice A2 n c2) (fun _ => rfl)).setCell w.heap.size 1 (.int .i64 (t.told : Int)) (fun _ => rfl)).setCell w.heap.size 2 (.int .i64 1) (fun _ => rfl)) (fun b hb e => hnb (by rw [hb, e])))
          · exact (((HB6.out.setCell (Nat.le_refl _) _).setCell (Nat.le_refl _) _).setCell (Nat.le_refl _) _)
end Go.Proofs.Ytbhhijdpmpcdnaa

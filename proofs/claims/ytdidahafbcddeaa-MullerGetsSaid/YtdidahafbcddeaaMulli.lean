/-
  quipuref.MullerGet walked.
-/
import Derived.Test.YtdidahafbcddeaaMullh
import Derived.Test.YtdidahafbcddeaaApart
set_option linter.unusedVariables false
namespace Go.Proofs.Ytdidahafbcddeaa
open Go.RowKit

theorem keep2 {B : Nat} {w0 W : World} {a1 a2 : Addr} {v1 v2 : Value} (hb : Below B w0 W) (h1 : a1.block < B) (c1 : w0.cell? a1 = some v1) (h2 : a2.block < B) (c2 : w0.cell? a2 = some v2) :
    Below B w0 W ∧ W.cell? a1 = some v1 ∧ W.cell? a2 = some v2 := ⟨hb, (hb.cell h1).trans c1, (hb.cell h2).trans c2⟩
/-- the rows that quipuref.MullerGet keeps: bits, products, data, and what one degree gives -/
def GR (w wr : World) (A : Option Addr) (M : Nat) (lt : List Bool) (adp : Addr) (n : Nat) (ps : List Nat) (gd ga : Nat) (dt at_ : List Bool) : Prop :=
  Reads wr wr.heap.size A M (vb lt) ∧ Reads wr wr.heap.size (some adp) n (vn .i64 ps) ∧ Own wr w.heap.size 4 (.slice (some ⟨gd, 0, none⟩) n n) (vb dt) ∧ Own wr w.heap.size 4 (.slice (some ⟨ga, 0, none⟩) n n) (vb at_) ∧ Below w.heap.size w wr ∧
    (∀ ad, A = some ad → ad.block ≠ gd ∧ ad.block ≠ ga) ∧ adp.block ≠ gd ∧ adp.block ≠ ga ∧ gd ≠ ga
section
variable {w wr w' : World} {A : Option Addr} {adp : Addr} {M n gd ga : Nat} {lt dt at_ : List Bool} {ps : List Nat}
theorem GR.both (h : GR w wr A M lt adp n ps gd ga dt at_) (i : Nat) : GR w ((wr.setCell ⟨gd, i, none⟩ (.bool true)).setCell ⟨ga, i, none⟩ (.bool true)) A M lt adp n ps gd ga (dt.set i true) (at_.set i true) := by
  obtain ⟨h1, h2, h3, h4, h5, h6, h7, h8, h9⟩ := h
  have hs := h3.set i (.bool true)
  have hb := h3.setBelow (Nat.le_refl _) i (.bool true)
  rw [vb_set, add_row] at hs
  rw [add_row] at hb
  have g4 := h4.setOther ⟨gd, i, none⟩ (.bool true) (fun e => by injection e with e; exact h9 e.symm)
  have hs2 := g4.set i (.bool true)
  have hb2 := g4.setBelow (Nat.le_refl _) i (.bool true)
  rw [vb_set, add_row] at hs2
  rw [add_row] at hb2
  refine ⟨?_, ?_, hs.setOther ⟨ga, i, none⟩ (.bool true) (fun e => by injection e with e; exact h9 e), hs2, (h5.trans hb).trans hb2, h6, h7, h8, h9⟩
  · have := (h1.setFar ⟨gd, i, none⟩ (.bool true) (fun ad e => (h6 ad e).1)).setFar ⟨ga, i, none⟩ (.bool true) (fun ad e => (h6 ad e).2)
    simpa using this
  · have := (h2.setFar ⟨gd, i, none⟩ (.bool true) (fun ad e => by injection e with e; subst e; exact h7)).setFar ⟨ga, i, none⟩ (.bool true) (fun ad e => by injection e with e; subst e; exact h8)
    simpa using this
end
theorem midD_rep {al : List Bool} {n : Nat} (h : al.length = n) : midD (List.replicate n false) al n n = al := by
  unfold midD
  apply List.ext_getElem (by simp [h])
  intro i h1 h2
  have hi : i < n := by simpa using h1
  simp [List.getD_eq_getElem?_getD, h2, hi]
set_option maxRecDepth 100000 in
set_option maxHeartbeats 3200000 in
theorem ref_MullerGet (r m M n : Nat) (A : Option Addr) (c : Nat) (l0 : List Bool) (ps : List Nat) (w : World) (h : Reads w w.heap.size A M (vb l0)) (hm : m ≤ 4) (hr : r ≤ m) (hps : Hid (prodU r (2 ^ m) = ps)) (hM : Hid (2 ^ m = M)) (hn : Hid (ps.length = n)) :
    Calls Try.prog 11 #[.int .i64 (r : Int), .int .i64 (m : Int), .slice A M c] w (RetS w 4 (vb (stS ps r M l0 (r + 1)).2)) := by
  have HL0 := Lib.hid h.bool_len
  have hn80 : n ≤ 80 := by rw [← hn.out, ← hps.out]; exact prodU_len r m hm hr
  have hn1 : 0 < n := by rw [← hn.out, ← hps.out]; exact prodU_pos r m
  have hM2 : M ≤ 16 := by rw [← hM.out]; exact Nat.pow_le_pow_right (n := 2) (by omega) hm
  have hM1 : 0 < M := by rw [← hM.out]; exact Nat.pow_pos (by omega)
  have HPL : Hid (∀ p ∈ ps, p < 16) := fun p hp => by
    rw [← hps.out] at hp
    have := prodU_lt r (2 ^ m) p hp
    rw [hM.out] at this; omega
  have cp := fun W => ref_Products r m W hm hr
  rw [hps.out] at cp
  go_enter Try.func11, Try.ntmps11
  go_wp2_with (first
    | (go_at_call 29; refine (cp _).mono ?_; clear cp; rintro e w1 ⟨A1, n1, k1, rfl, ho1, hb1⟩; obtain rfl : n = n1 := (by rw [← ho1.reads.nat_len]; exact hn.out.symm))
    | (at_make; refine mkN el_clone_bools rfl _ _ rfl w1.heap.size n rfl rfl rfl rfl (by omega) (by unfold maxLen; omega) (Nat.le_refl _) ?_; intro w2 ho2 hb2 hs2))
  have hrep : List.replicate n (Value.bool false) = vb (List.replicate n false) := by simp [vb]
  rw [hrep] at ho2
  obtain ⟨adp, rfl, _⟩ := ho1.reads.cells hn1
  have q1 := ho1.atLeast
  have q3 := hb2.size
  have q0 := hb1.size
  have hst : Reads w2 w2.heap.size A M (vb (stS ps r M l0 0).1) ∧ Reads w2 w2.heap.size (some adp) n (vn .i64 ps) ∧ Own w2 w.heap.size 4 (.slice (some ⟨w1.heap.size, 0, none⟩) n n) (vb (stS ps r M l0 0).2) ∧ Below w.heap.size w w2 ∧ (∀ ad, A = some ad → ad.block ≠ w1.heap.size) ∧ adp.block ≠ w1.heap.size := by
    refine ⟨(h.below (hb1.trans (hb2.mono q0))).more (by omega), (ho1.reads.below hb2).more q3, ?_, hb1.trans (hb2.mono q0), ?_, by omega⟩
    · rw [stS, hn.out]; exact ho2.low q0
    · intro ad e
      obtain ⟨ad', e', hlt, _⟩ := h.cells hM1
      rw [e] at e'
      injection e' with e'
      subst e'
      omega
  have HST := Lib.hid hst
  obtain ⟨gd, hgd⟩ : ∃ gd, gd = w1.heap.size := ⟨_, rfl⟩
  rw [← hgd] at HST ⊢
  clear hrep ho1 ho2 hb1 hb2 hs2 q1 q3 q0 hst hgd
  go_loopw [2, 9] (fun lv dv wr => ∃ (t c' : Nat) (A' : Option Addr), t ≤ r + 1 ∧ dv = .int .i64 ((r : Int) - (t : Int)) ∧ lv = .slice A' M c' ∧ Reads wr wr.heap.size A' M (vb (stS ps r M l0 t).1) ∧ Reads wr wr.heap.size (some adp) n (vn .i64 ps) ∧ Own wr w.heap.size 4 (.slice (some ⟨gd, 0, none⟩) n n) (vb (stS ps r M l0 t).2) ∧ Below w.heap.size w wr ∧ (∀ ad, A' = some ad → ad.block ≠ gd) ∧ adp.block ≠ gd) (fun _ dv _ => (intOf dv + 1).toNat)
  case atStart => exact ⟨0, c, A, by omega, by simp, rfl, HST.out⟩
  case round =>
    obtain ⟨t, c', A', ht, rfl, rfl, hl, hp, hd, hbel, hA', hpd⟩ := hrel
    clear HST
    obtain ⟨wo, rfl⟩ : ∃ x, x = wr := ⟨_, rfl⟩
    obtain ⟨hsl, hsd⟩ := stS_len (ps := ps) (r := r) (M := M) HL0.out t
    by_cases hlt : t ≤ r
    · obtain ⟨d, hdd⟩ : ∃ d, r - t = d := ⟨_, rfl⟩
      have hdi : (r : Int) - (t : Int) = (d : Int) := by omega
      have hnx : stS ps r M l0 (t + 1) = (addA (stS ps r M l0 t).1 (alS ps M d (stS ps r M l0 t).1) ps M ps.length, midD (stS ps r M l0 t).2 (alS ps M d (stS ps r M l0 t).1) ps.length ps.length) := by rw [stS, hdd]
      rw [hdi]
      obtain ⟨lt, hlt'⟩ : ∃ lt, (stS ps r M l0 t).1 = lt := ⟨_, rfl⟩
      obtain ⟨dt, hdt⟩ : ∃ dt, (stS ps r M l0 t).2 = dt := ⟨_, rfl⟩
      rw [hlt'] at hsl hl hnx
      rw [hdt] at hsd hd hnx
      obtain ⟨al, hal⟩ : ∃ al, alS ps M d lt = al := ⟨_, rfl⟩
      rw [hal] at hnx
      have HNX := Lib.hid hnx
      have HAL := Lib.hid hal
      have HSL := Lib.hid hsl
      have HSD := Lib.hid (hsd.trans hn.out)
      have hdrt : Hid (d + t = r) := by unfold Hid; omega
      have d0 : (0 : Int) ≤ (d : Int) := by omega
      have hd4 : (d : Int) ≤ 4 := by omega
      have hgw : gd < wo.heap.size := hd.atLeast.2
      have hpw : adp.block < wo.heap.size := by
        obtain ⟨ad, e, h1, _⟩ := hp.cells hn1
        injection e with e
        subst e
        exact h1
      have hAw : ∀ ad, A' = some ad → ad.block < wo.heap.size := by
        intro ad e
        obtain ⟨ad', e', h1, _⟩ := hl.cells hM1
        rw [e] at e'
        injection e' with e'
        subst e'
        exact h1
      have HL := Lib.hid hl
      have HP := Lib.hid hp
      have HD := Lib.hid hd
      have HBEL := Lib.hid hbel
      have HA' := Lib.hid hA'
      have HAw := Lib.hid hAw
      clear hnx hal hsl hsd hdi hdd hlt' hdt hl hp hd hbel hA' hAw
      go_wp2_with (at_make; refine mkN el_clone_bools rfl _ _ rfl wo.heap.size n rfl rfl rfl rfl (by omega) (by unfold maxLen; omega) (Nat.le_refl _) ?_; intro w3 ho3 hb3 hs3)
      have hrep : List.replicate n (Value.bool false) = vb (midD (List.replicate n false) al n 0) := by rw [midD_zero _ _ _ (by simp)]; simp [vb]
      rw [hrep] at ho3
      have hgr : GR w w3 A' M lt adp n ps gd wo.heap.size (midD dt al n 0) (midD (List.replicate n false) al n 0) := by
        refine ⟨(HL.out.below hb3).more hb3.size, (HP.out.below hb3).more hb3.size, ?_, ho3.low HBEL.out.size, HBEL.out.trans (hb3.mono HBEL.out.size), fun ad e => ⟨HA'.out ad e, by have := HAw.out ad e; omega⟩, hpd, by omega, by omega⟩
        rw [midD_zero dt al n HSD.out]
        exact HD.out.below hb3 (Nat.le_refl _)
      have HGR := Lib.hid hgr
      obtain ⟨ga, hga⟩ : ∃ ga, ga = wo.heap.size := ⟨_, rfl⟩
      rw [← hga] at HGR ⊢
      have HGA := Lib.hid hga
      clear hrep hgr hga ho3 hb3 hs3
      go_loopw [34] (fun iv wr => ∃ i : Nat, i ≤ n ∧ iv = .int .i64 (i : Int) ∧ GR w wr A' M lt adp n ps gd ga (midD dt al n i) (midD (List.replicate n false) al n i)) (fun iv _ => n - (intOf iv).toNat)
      case atStart => exact ⟨0, by omega, rfl, HGR.out⟩
      case round =>
        obtain ⟨i, hi, rfl, hgr⟩ := hrel
        clear HGR
        by_cases hlt2 : i < n
        · obtain ⟨p, hp⟩ : ∃ p, ps[i]? = some p := ⟨_, List.getElem?_eq_getElem (by rw [hn.out]; exact hlt2)⟩
          have hp16 := HPL.out p (mem_at hp)
          obtain ⟨adq, uq, e, _, hxq, hcq⟩ := hgr.2.1.at_ hlt2
          injection e with e
          subst e
          rw [List.getElem?_map, hp] at hxq
          injection hxq with hxq
          subst hxq
          have haD : al.getD i false = (decide (degU p = d) && voteB lt p M) := by rw [List.getD_eq_getElem?_getD, ← HAL.out, alS_at _ _ _ hp]; rfl
          obtain ⟨yes, hyes⟩ : ∃ yes, (ksV p M).countP (parV lt p M) = yes := ⟨_, rfl⟩
          obtain ⟨all, hall⟩ : ∃ all, (ksV p M).length = all := ⟨_, rfl⟩
          have hvb : voteB lt p M = decide (all < 2 * yes) := by unfold voteB; rw [hyes, hall]
          have hall16 : all ≤ 16 := by have := ksV_len p M; omega
          have hyes16 : yes ≤ 16 := by have : (ksV p M).countP (parV lt p M) ≤ (ksV p M).length := List.countP_le_length; omega
          have cv := ref_votes A' M c' m p lt wr hgr.1 hM hm hp16 yes all hyes hall
          have cz := fun W => ref_Size p W (by omega)
          rw [pop_deg ⟨p, hp16⟩] at cz
          have pu : IntKind.u32.wrap (p : Int) = (p : Int) := by rw [IntKind.wrap_u32]; omega
          have pu2 : (p : Int) % 4294967296 = (p : Int) := by omega
          have i0 : (0 : Int) ≤ (i : Int) := by omega
          have i1 : (i : Int) < (n : Int) := by omega
          rw [hvb] at haD
          obtain ⟨g, hg⟩ : ∃ g, degU p = g := ⟨_, rfl⟩
          simp only [hg] at cz
          rw [hg] at haD
          have HADD := Lib.hid haD
          clear hp hyes hall hvb hg haD
          have off : al.getD i false = false → GR w wr A' M lt adp n ps gd ga (midD dt al n (i + 1)) (midD (List.replicate n false) al n (i + 1)) := by
            intro h0
            rw [midD_same dt al n i h0, midD_same _ al n i h0]
            exact hgr
          by_cases hgd2 : g = d
          · subst hgd2
            have tg : ((g : Int) == (g : Int)) = true := by simp
            by_cases hv : all < 2 * yes
            · have tv : (all : Int) < (yes : Int) + (yes : Int) := by omega
              have ht1 : al.getD i false = true := by rw [HADD.out]; simp [hv]
              have hb2 := hgr.both i
              rw [midD_next dt al n i true (by rw [ht1]; simp), midD_next (List.replicate n false) al n i true (by rw [ht1]; simp)] at hb2
              have hcd : wr.cell? ⟨gd, i, none⟩ = some (.bool (dt.getD i false)) := by
                rw [← add_row]
                refine (hgr.2.2.1.cellAt hlt2).trans ?_
                rw [List.getElem?_map, midD_at dt al i hlt2]
                simp
              have hfd : wr.frozen? ⟨gd, i, none⟩ = false := by rw [← add_row]; exact hgr.2.2.1.frozenAt i
              have hca : wr.cell? ⟨ga, i, none⟩ = some (.bool ((List.replicate n false).getD i false)) := by
                rw [← add_row]
                refine (hgr.2.2.2.1.cellAt hlt2).trans ?_
                rw [List.getElem?_map, midD_at _ al i hlt2]
                simp
              have hfa : wr.frozen? ⟨ga, i, none⟩ = false := by rw [← add_row]; exact hgr.2.2.2.1.frozenAt i
              have hca2 : (wr.setCell ⟨gd, i, none⟩ (.bool true)).cell? ⟨ga, i, none⟩ = some (.bool ((List.replicate n false).getD i false)) := (World.cell?_setCell_other wr _ _ _ (fun e => by have e3 := congrArg Addr.block e; have h9 := hgr.2.2.2.2.2.2.2.2; first | exact h9 e3 | exact h9 e3.symm)).trans hca
              have hfa2 : (wr.setCell ⟨gd, i, none⟩ (.bool true)).frozen? ⟨ga, i, none⟩ = false := by rw [World.frozen?_setCell]; exact hfa
              obtain ⟨y1, hy1⟩ : ∃ y, dt.getD i false = y := ⟨_, rfl⟩
              obtain ⟨y2, hy2⟩ : ∃ y, (List.replicate n false).getD i false = y := ⟨_, rfl⟩
              rw [hy1] at hcd
              rw [hy2] at hca hca2
              clear ht1 hv off hy1 hy2 hgr
              go_wp2_with (first
                | (go_at_call 30; refine cv.mono ?_; clear cv; rintro e w' ⟨rfl, rfl⟩)
                | (go_at_call 31; refine (cz _).mono ?_; clear cz; rintro e w' ⟨rfl, rfl⟩))
              go_roundw
              case rel => exact ⟨i + 1, by omega, by go_num, hb2⟩
              case measure => simp [intOf] <;> omega
            · have tv : ¬ (all : Int) < (yes : Int) + (yes : Int) := by omega
              have hof := off (by rw [HADD.out]; simp [hv])
              clear hv off hgr
              go_wp2_with (first
                | (go_at_call 30; refine cv.mono ?_; clear cv; rintro e w' ⟨rfl, rfl⟩)
                | (go_at_call 31; refine (cz _).mono ?_; clear cz; rintro e w' ⟨rfl, rfl⟩))
              go_roundw
              case rel => exact ⟨i + 1, by omega, by go_num, hof⟩
              case measure => simp [intOf] <;> omega
          · have tg : ((g : Int) == (d : Int)) = false := by simp; omega
            have hof := off (by rw [HADD.out]; simp [hgd2])
            clear hgd2 off hgr
            go_wp2_with (first
              | (go_at_call 30; refine cv.mono ?_; clear cv; rintro e w' ⟨rfl, rfl⟩)
              | (go_at_call 31; refine (cz _).mono ?_; clear cz; rintro e w' ⟨rfl, rfl⟩))
            go_roundw
            case rel => exact ⟨i + 1, by omega, by go_num, hof⟩
            case measure => simp [intOf] <;> omega
        · obtain rfl : n = i := by omega
          have hall : al.length = n := by rw [← HAL.out, alS_len, hn.out]
          obtain ⟨gl, gp, gD, gA, gB, g6, g7, g8, g9⟩ := hgr
          rw [midD_rep hall] at gA
          have cm := ref_Muller r m M (some ⟨ga, 0, none⟩) n n al ps wr gA.reads hm hr hps hM hn
          have HGL := Lib.hid gl
          have HGP := Lib.hid gp
          have HGD := Lib.hid gD
          have HGB := Lib.hid gB
          have HGAW := Lib.hid gA.atLeast
          clear gl gp gD gA gB hall
          obtain ⟨wi, rfl⟩ : ∃ x, x = wr := ⟨_, rfl⟩
          have g6' := Lib.hid g6
          clear g6
          go_wp2_with (go_at_call 32; refine cm.mono ?_; clear cm; rintro e w4 ⟨A4, n4, k4, rfl, ho4, hb4⟩; obtain rfl : M = n4 := (by rw [← ho4.reads.bool_len, mulL_len]))
          have hl4 := HGL.out.below hb4
          have hr4 := ho4.reads
          have hs4 := hb4.size
          have HO4 := Lib.hid ho4
          have HB4 := Lib.hid hb4
          obtain ⟨q, hq⟩ : ∃ q, addA lt al ps M n = q := ⟨_, rfl⟩
          have HQ := Lib.hid hq
          have hql : q.length = M := by rw [← hq, addA_len]
          have HQL := Lib.hid hql
          clear ho4 hb4 hq hql
          go_loopw [16, 17] (fun v xv wx => ∃ x : Nat, x ≤ M ∧ xv = .int .i64 (x : Int) ∧ Own wx w4.heap.size 4 v (vb (q.take x)) ∧ Below w4.heap.size w4 wx) (fun _ xv _ => M - (intOf xv).toNat)
          case atStart => exact ⟨0, by omega, rfl, by simpa using Own.nil _ _ _, Below.refl _ _⟩
          case round =>
            obtain ⟨x, hx, rfl, hown, hbx⟩ := hrel
            obtain ⟨wx, rfl⟩ : ∃ x, x = wr := ⟨_, rfl⟩
            by_cases hltx : x < M
            · obtain ⟨adl, y, e1, hb1, hy, hc1⟩ := hl4.bool_at hltx
              obtain ⟨ad4, z, e2, hb2, hz, hc2⟩ := hr4.bool_at hltx
              subst e1
              subst e2
              have hat := addA_at hy hz hltx
              rw [HQ.out] at hat
              have d1 : wx.cell? (adl.add x) = some (.bool y) := (hbx.cell (p := adl.add x) (by rw [block_of_add]; omega)).trans hc1
              have d2 : wx.cell? (ad4.add x) = some (.bool z) := (hbx.cell (p := ad4.add x) (by rw [block_of_add]; omega)).trans hc2
              have i0 : (0 : Int) ≤ (x : Int) := by omega
              have i1 : (x : Int) < (M : Int) := by omega
              have hyz : (!(y == z)) = (y != z) := rfl
              have HN : Hid (vb (q.take x) ++ [Value.bool (!(y == z))] = vb (q.take (x + 1))) := by
                unfold Hid
                rw [take_next hat, hyz]
                simp [vb]
              have HVL : Hid ((vb (q.take x)).length = x) := by unfold Hid; rw [List.length_map, List.length_take, HQL.out]; omega
              have hbB := hbx.size
              have k1 : (adl.add x).block < w4.heap.size := by rw [block_of_add]; omega
              have k2 : (ad4.add x).block < w4.heap.size := by rw [block_of_add]; omega
              clear hy hz hat hc1 hc2 hyz
              go_wp2
              go_region_held3 (fun W => Below w4.heap.size wx W ∧ W.cell? (adl.add x) = some (.bool y) ∧ W.cell? (ad4.add x) = some (.bool z))
                ((go_split_ands; first
                  | exact keep2 (Below.refl _ _).drew k1 d1 k2 d2
                  | exact keep2 (Below.alloc0 (by assumption) hbB _) k1 d1 k2 d2
                  | exact keep2 ((Below.refl _ _).alloc hbB _).drew k1 d1 k2 d2
                  | exact keep2 ((Below.refl _ _).drew.alloc hbB _) k1 d1 k2 d2
                  | exact keep2 (Below.grown0 (by assumption) hbB hg5 (fun j hj => (Own.lt hown j hj).1)) k1 d1 k2 d2
                  | fail))
                (((refine step_appG el_clone_bools rfl (.tmp 75) (.tmp 85) (by rfl) (by rfl) (xs := vb (q.take x)) (base := w4.heap.size) (by first | exact (hown.drew.alloc _) | exact ((hown.alloc _).drew)) (by rfl) (B := wx.heap.size + 1) (news := [Value.bool (!(y == z))]) (by first | exact reads_oneV wx.drew _ _ | exact (reads_oneV wx _ _).drew) (by intro u hu; rw [List.mem_singleton.1 hu]; rfl) (by rw [HVL.out]; unfold maxLen; omega) (by rw [HVL.out]; omega) (by go_split_ands; exact Nat.le_trans hbB (Below.size (by assumption))) ?_); intro v5 w5 ho5 hg5 _))
              have hb5 : Below w4.heap.size wx w5 := by go_split_ands; assumption
              rw [HN.out] at ho5
              go_wp2
              go_roundw
              case rel => exact ⟨x + 1, by omega, by go_num, ho5, hbx.trans hb5⟩
              case measure => simp [intOf] <;> omega
            · obtain rfl : M = x := by omega
              have htk : q.take M = q := List.take_of_length_le (Nat.le_of_eq HQL.out)
              rw [htk] at hown
              obtain ⟨A5, c5, e5⟩ := hown.form
              have hvl : (vb q).length = M := by rw [List.length_map, HQL.out]
              rw [hvl] at e5
              subst e5
              have hdg1 : Hid (Reads wx wx.heap.size A5 M (vb (stS ps r M l0 (t + 1)).1) ∧ Reads wx wx.heap.size (some adp) n (vn .i64 ps) ∧ Own wx w.heap.size 4 (.slice (some ⟨gd, 0, none⟩) n n) (vb (stS ps r M l0 (t + 1)).2) ∧ Below w.heap.size w wx ∧ (∀ ad, A5 = some ad → ad.block ≠ gd) ∧ adp.block ≠ gd) := by
                have hb4 := HB4.out
                have hB1 : wi.heap.size ≤ w4.heap.size := hb4.size
                refine ⟨?_, ?_, ?_, (HGB.out.trans (hb4.mono HGB.out.size)).trans (hbx.mono (Nat.le_trans HGB.out.size hB1)), ?_, g7⟩
                · rw [HNX.out, hn.out, HQ.out]; exact hown.reads
                · exact ((HGP.out.below hb4).below (hbx.mono hB1)).more (Nat.le_trans hB1 hbx.size)
                · rw [HNX.out, hn.out]
                  exact (HGD.out.below hb4 (Nat.le_refl _)).below hbx (Nat.le_refl _)
                · intro ad e
                  subst e
                  have h1 := hown.atLeast.1
                  have h2 := HGD.out.atLeast.2
                  show ad.block ≠ gd
                  have h3 : gd < wi.heap.size := h2
                  omega
              clear htk hvl hown
              go_wp2
              go_roundw
              case rel => exact ⟨t + 1, c5, A5, by omega, by have := hdrt.out; refine congrArg (Value.int .i64) ?_; omega, rfl, hdg1.out⟩
              case measure => simp [intOf] <;> omega
    · obtain rfl : t = r + 1 := by omega
      have hneg2 : (r : Int) - ((r + 1 : Nat) : Int) = -1 := by omega
      rw [hneg2]
      clear hneg2
      go_wp2
      go_ret
      exact ⟨_, n, n, rfl, hd, hbel⟩
end Go.Proofs.Ytdidahafbcddeaa

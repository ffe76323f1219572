/-
  (*alpha.best).lens: the first of the best lists of a stretch.
-/
import Derived.Test.YtglcljlafioleaaAlrec
import Derived.Test.YtglcljlafioleaaAltt
import Derived.Test.YtglcljlafioleaaQuiet
import Derived.Test.YtglcljlafioleaaCloneInts
set_option linter.unusedVariables false
namespace Go.Proofs.Ytglcljlafioleaa
open Go.RowKit

theorem one_vnA (l : List Nat) : ∀ u ∈ vn .i64 l, u.oneCell' = true := by
  intro u hu; obtain ⟨b, _, rfl⟩ := List.mem_map.1 hu; rfl
def upD (d : Nat) (l : List Nat) : List Nat := l.map (· + d)
theorem upD_len (d : Nat) (l : List Nat) : (upD d l).length = l.length := List.length_map _
theorem upD_cand (seg : List Nat) (k d : Nat) : upD (d + 1) (bestL (seg.take k)) ++ upD (d + 1) (bestL (seg.drop k)) = upD d (candL seg k) := by
  unfold upD candL
  rw [List.map_map, ← List.map_append]
  congr 1
  funext x
  simp only [Function.comp]
  omega
/-- what lens keeps: the first list as yet -/
def StFi (wr : World) (base s d : Nat) (o : Option (List Nat)) (v : Value) : Prop :=
  match o with
  | none => v = .slice none 0 0
  | some l => ∃ ad c, v = .slice (some ad) s c ∧ Own wr base 3 (.slice (some ad) s c) (vn .i64 (upD d l)) ∧ ad.block < wr.heap.size
theorem StFi.same {wr w' : World} {base s d : Nat} {o : Option (List Nat)} {v : Value} (h : StFi wr base s d o v) (hb : Below wr.heap.size wr w') : StFi w' base s d o v := by
  cases o with
  | none => exact h
  | some l =>
    obtain ⟨ad, c, e, ho, hlt⟩ := h
    exact ⟨ad, c, e, ho.below hb (Nat.le_refl _), Nat.lt_of_lt_of_le hlt hb.size⟩
theorem stFi_new {w : World} {B base s d : Nat} {L : List Nat} {v : Value} (ho : Own w B 3 v (vn .i64 (upD d L))) (hl : L.length = s) (hs : 0 < s) (hB : base ≤ B) : ∃ ad c, v = .slice (some ad) s c ∧ Own w base 3 (.slice (some ad) s c) (vn .i64 (upD d L)) ∧ ad.block < w.heap.size := by
  obtain ⟨A, c, e⟩ := ho.form
  have hlen : (vn .i64 (upD d L)).length = s := by unfold vn; rw [List.length_map, upD_len, hl]
  rw [hlen] at e
  subst e
  obtain ⟨ad, rfl, _, _⟩ := ho.reads.cells (by omega)
  exact ⟨ad, c, rfl, ho.low hB, ho.withinJ ad rfl⟩
theorem vn_upD_app (a b L : List Nat) (d : Nat) (h : upD (d + 1) a ++ upD (d + 1) b = upD d L) : vn .i64 (upD (d + 1) a) ++ vn .i64 (upD (d + 1) b) = vn .i64 (upD d L) := by
  rw [← h]; unfold vn; rw [List.map_append]
theorem lessL_up (d : Nat) (a b : List Nat) : lessL (upD d a) (upD d b) = lessL a b := lessL_map d a b
set_option maxRecDepth 100000 in
set_option maxHeartbeats 4000000 in
theorem alpha_lens (b0 hb m n c : Nat) (gr : Nat → Nat) (A : Option Addr) (ws : List Nat) (f : Nat → Nat → Nat) (hmn : m = n + 1) (hn : n ≤ 8) (hl : ws.length = n) (hcap : n ≤ c) (hw : ∀ x ∈ ws, x ≤ 1048576) (hf : Hid (∀ a b, b ≤ n → f a b = bestC (segL ws a b))) :
    ∀ s i j d : Nat, i + s = j → 1 ≤ s → j ≤ n → d + s ≤ 8 → ∀ W, TabK W b0 hb m m gr (.slice A n c) f → Reads W W.heap.size A n (vn .i64 ws) →
      Calls Try.prog 35 #[.pointer (some ⟨hb, 0, none⟩), .int .i64 (i : Int), .int .i64 (j : Int), .int .i64 (d : Int)] W (RetS W 3 (vn .i64 (upD d (bestL (segL ws i j))))) := by
  intro s
  induction s using Nat.strongRecOn with
  | ind s ih =>
    intro i j d hij hs1 hjn hds W htab hreads
    have HIH := Lib.hid ih
    have HIJ := Lib.hid hij
    have HWT := Lib.hid hw
    have HL := Lib.hid hl
    have HMN := Lib.hid hmn
    have HTAB := Lib.hid htab
    have HRD := Lib.hid hreads
    have ejs : IntKind.i64.wrap ((j : Int) - (i : Int)) = (s : Int) := by rw [IntKind.wrap_i64]; omega
    have ejs2 : (j : Int) - (i : Int) = (s : Int) := by omega
    have qn : ∀ (w : World) (a : Option Addr) (n c n' c' : Nat), (binOp .eql 38 (.slice a n c) (.slice none n' c')).run Try.prog w = .ok (.bool a.isNone) w := fun w a n c n' c' => Lib.run_eql_slice_nil w _ _ a n c n' c' Try.underlying38
    have hs8 : s ≤ 8 := by omega
    have hd8 : d ≤ 8 := by omega
    have hj8 : j ≤ 8 := by omega
    have hi8 : i ≤ 8 := by omega
    clear ih hij hw hl hmn htab hreads
    by_cases h1 : s = 1
    · subst h1
      have hseg := segL_len (ws := ws) (i := i) (j := j) (by have := HL.out; omega) (by have := HIJ.out; omega)
      have hbs := (best_small (ws := segL ws i j) (by have := HIJ.out; omega)).2
      rw [hseg, show j - i = 1 by have := HIJ.out; omega] at hbs
      have HBS := Lib.hid hbs
      clear hbs hseg
      go_enter Try.func35, Try.ntmps35
      go_wp2
      go_ret
      rw [HBS.out]
      exact ⟨_, 1, 1, rfl, by simpa [upD, vn] using Own.built (E := 3) (base := W.heap.size) W #[.int .i64 (d : Int)] 1 rfl (by unfold maxLen; omega) (Nat.le_refl _), (Below.refl _ _).alloc (Nat.le_refl _) _⟩
    · obtain ⟨k2, hk2⟩ : ∃ k2, s = k2 + 2 := ⟨s - 2, by omega⟩
      have hss : ¬ (s : Int) < 2 := by omega
      obtain ⟨seg, hseg⟩ : ∃ seg, segL ws i j = seg := ⟨_, rfl⟩
      have HSEG := Lib.hid hseg
      have hsl : seg.length = k2 + 2 := by rw [← hseg, segL_len (by have := HL.out; omega) (by have := HIJ.out; omega)]; have := HIJ.out; omega
      have HSL := Lib.hid hsl
      have HK2 := Lib.hid hk2
      rw [hseg]
      clear hseg hsl h1 hk2
      go_enter Try.func35, Try.ntmps35
      go_wp2
      go_loopw [9, 10] (fun fv kv wr => ∃ k : Nat, k + 1 ≤ s ∧ kv = .int .i64 ((i + 1 + k : Nat) : Int) ∧ StFi wr W.heap.size s d (firstK seg k) fv ∧ Below W.heap.size W wr) (fun _ kv _ => j - (intOf kv).toNat)
      case atStart => exact ⟨0, by omega, by go_num, rfl, Below.refl _ _⟩
      case round =>
        obtain ⟨k, hk, rfl, hst, hbel⟩ := hrel
        obtain ⟨wo, rfl⟩ : ∃ x, x = wr := ⟨_, rfl⟩
        by_cases hlt : k + 1 < s
        · obtain ⟨kk, hkk⟩ : ∃ kk, kk = i + 1 + k := ⟨_, rfl⟩
          rw [← hkk]
          have hij := HIJ.out
          have hmn := HMN.out
          have hk1 : i < kk := by omega
          have hk2 : kk < j := by omega
          have hk2I : (kk : Int) < (j : Int) := by omega
          have ekI : IntKind.i64.wrap ((kk : Int) + 1) = ((i + 1 + (k + 1) : Nat) : Int) := by rw [IntKind.wrap_i64]; omega
          have t1 := HTAB.out.same (hbel.mono (Nat.le_refl _))
          have hrd := (HRD.out.below hbel).more hbel.size
          have c1 := t1.tab
          have c0 := t1.wts
          have c2 := t1.rowAt (i := i) (by omega) (by omega)
          have c3 := t1.cellAt (i := i) (j := kk) (by omega) (by omega)
          have c4 := t1.rowAt (i := kk) (by omega) (by omega)
          have c5 := t1.cellAt (i := kk) (j := j) (by omega) (by omega)
          have c6 := t1.cellAt (i := i) (j := j) (by omega) (by omega)
          rw [hf.out _ _ (by omega)] at c3 c5 c6
          have hb8 := fun a b (hb : b ≤ n) => bestC_le (ws := segL ws a b) (by
            unfold segL
            have h1 := List.length_take_le (b - a) (ws.drop a)
            have h2 := List.length_drop (i := a) (l := ws)
            have h3 := List.length_take (i := b - a) (l := ws.drop a)
            have := HL.out
            omega) (fun x hx => HWT.out x (segL_mem hx))
          have hx8 := hb8 i kk (by omega)
          have hy8 := hb8 kk j (by omega)
          have hz8 := hb8 i j (by omega)
          have hseg1 : segL ws i kk = seg.take (k + 1) := by rw [← HSEG.out, ← segL_take (ws := ws) (i := i) (j := j) (k := kk) (by omega) (by omega), show kk - i = k + 1 by omega]
          have hseg2 : segL ws kk j = seg.drop (k + 1) := by rw [← HSEG.out, ← segL_drop (ws := ws) (i := i) (j := j) (k := kk) (by omega) (by omega), show kk - i = k + 1 by omega]
          rw [HSEG.out] at c6 hz8
          have hS8 : sumL seg ≤ 8388608 := by
            have h1 := sumL_le (ws := seg) 1048576 (fun x hx => HWT.out x (by rw [← HSEG.out] at hx; exact segL_mem hx))
            rw [HSL.out] at h1
            have h2 : (k2 + 2) * 1048576 ≤ 8 * 1048576 := Nat.mul_le_mul_right _ (by have := HK2.out; omega)
            exact Nat.le_trans h1 (Nat.le_trans h2 (by decide))
          have cs := fun q => alpha_sum hb i j n c A ws (sumL seg) (wo.drewN q) (hrd.drewN q) hn hcap (by omega) hjn HWT.out c0 (by unfold Hid; rw [HSEG.out])
          have hcut : cutC seg (k + 1) = bestC (segL ws i kk) + bestC (segL ws kk j) := by
            unfold cutC
            rw [hseg1, hseg2]
          have hfk : firstK seg (k + 1) = if cutC seg (k + 1) + sumL seg = bestC seg then
              match firstK seg k with
              | none => some (candL seg (k + 1))
              | some l => if lessL (candL seg (k + 1)) l = true then some (candL seg (k + 1)) else some l
            else firstK seg k := rfl
          rw [hcut] at hfk
          have hcl : (candL seg (k + 1)).length = s := by rw [candL_len (n := k2) HSL.out (by have := HK2.out; omega) (by have := HK2.out; omega), HK2.out]
          have ca := fun q => HIH.out (k + 1) (by omega) i kk (d + 1) (by omega) (by omega) (by omega) (by omega) (wo.drewN q) (t1.drewN q) (hrd.drewN q)
          have cb := fun (w' : World) (hb' : Below wo.heap.size wo w') => HIH.out (s - (k + 1)) (by omega) kk j (d + 1) (by omega) (by omega) (by omega) (by omega) w' (t1.same hb') ((hrd.below hb').more hb'.size)
          rw [hseg1] at ca
          rw [hseg2] at cb
          have hup := upD_cand seg (k + 1) d
          have hl1 : (seg.take (k + 1)).length = k + 1 := take_len HSL.out (by have := HK2.out; omega)
          have hl2 : (seg.drop (k + 1)).length = s - (k + 1) := by rw [List.length_drop, HSL.out, HK2.out]
          have hb1 := best_len (ws := seg.take (k + 1)) (by omega)
          have hb2 := best_len (ws := seg.drop (k + 1)) (by omega)
          rw [hl1] at hb1
          rw [hl2] at hb2
          generalize bestC (segL ws i kk) = x at *
          generalize bestC (segL ws kk j) = y at *
          generalize bestC seg = C at *
          generalize sumL seg = S at *
          generalize bestL (seg.take (k + 1)) = L1 at *
          generalize bestL (seg.drop (k + 1)) = L2 at *
          generalize candL seg (k + 1) = L at *
          have HFK := Lib.hid hfk
          have HKK := Lib.hid hkk
          have HUP := Lib.hid hup
          have HCL := Lib.hid hcl
          have HB1 := Lib.hid hb1
          have HB2 := Lib.hid hb2
          have HST := Lib.hid hst
          have HBEL := Lib.hid hbel
          have z1 : (0 : Int) ≤ (i : Int) := by omega
          have z2 : (i : Int) < (m : Int) := by omega
          have z3 : (0 : Int) ≤ (kk : Int) := by omega
          have z4 : (kk : Int) < (m : Int) := by omega
          have z5 : (0 : Int) ≤ (j : Int) := by omega
          have z6 : (j : Int) < (m : Int) := by omega
          clear t1 hrd hmn hij hb8 hcut hfk hkk hseg1 hseg2 hup hcl hl1 hl2 hb1 hb2 hst hbel
          by_cases hcc : x + y + S = C
          · have hne : ((x : Int) + (y : Int) + (S : Int) != (C : Int)) = false := by simp; omega
            have HF : Hid (firstK seg (k + 1) = match firstK seg k with
              | none => some L
              | some l => if lessL L l = true then some L else some l) := by unfold Hid; rw [HFK.out, if_pos hcc]
            clear hcc
            cases hfs : firstK seg k with
            | none =>
              rw [hfs] at HF HST
              have HF : Hid (firstK seg (k + 1) = some L) := HF.out
              obtain rfl : u9 = .slice none 0 0 := HST.out
              clear hfs
              go_wp2
              go_quiet ((go_at_call 49; first | exact quietR (cs _) | exact quietR2 (cs _)))
              go_wp2_with (first
                | (go_at_call 35; refine (ca _).mono ?_; clear ca; rintro e w1 ⟨A1, n1, c1, rfl, ho1, hb1⟩; have hB1 : Below wo.heap.size wo w1 := (below_drewN (Below.refl _ wo) _).trans hb1; have hb := cb w1 hB1; clear cb; have hn1 : Hid (n1 = k + 1) := (by unfold Hid; rw [← ho1.reads.nat_len, upD_len, HB1.out]))
                | (go_at_call 35; refine hb.mono ?_; clear hb; rintro e w2 ⟨A2, n2, c2, rfl, ho2, hb2⟩; have hB2 : Below wo.heap.size wo w2 := hB1.trans (hb2.mono hB1.size); have hoA := ho1.below hb2 (Nat.le_refl _); have hn2 : Hid (n2 = s - (k + 1)) := (by unfold Hid; rw [← ho2.reads.nat_len, upD_len, HB2.out]))
                | (at_builtin; refine appN el_intT rfl _ _ rfl rfl (hoA.low (B := wo.heap.size) (by simp)) rfl ho2.reads (one_vnA _) (by rw [ho1.reads.len, hn1.out, hn2.out]; unfold maxLen; omega) (by rw [ho1.reads.len, hn1.out, hn2.out]; omega) hB2.size ?_; intro v3 w3 ho3 hb3 hg3 hat3))
              rw [vn_upD_app _ _ _ _ HUP.out] at ho3
              have hB3 : Below wo.heap.size wo w3 := hB2.trans hb3
              obtain ⟨ad3, c3, e3, hO3, hl3⟩ := stFi_new ho3 HCL.out (by omega) HBEL.out.size
              go_roundw
              case rel => exact ⟨k + 1, by omega, by first | rfl | go_num, by rw [HF.out]; exact ⟨ad3, c3, e3, hO3, hl3⟩, HBEL.out.trans (hB3.mono HBEL.out.size)⟩
              case measure => have := HKK.out; simp [intOf] <;> omega
            | some l0 =>
              rw [hfs] at HF HST
              have HF : Hid (firstK seg (k + 1) = if lessL L l0 = true then some L else some l0) := HF.out
              obtain ⟨ad0, cc0, e0, ho0, hlt0⟩ := HST.out
              subst e0
              have HO0 := Lib.hid ho0
              clear hfs ho0 HST
              cases hq : lessL L l0 with
              | true =>
                have HF : Hid (firstK seg (k + 1) = some L) := by unfold Hid; rw [HF.out, if_pos hq]
                have HQ := Lib.hid hq
                clear hq
                go_wp2
                go_quiet ((go_at_call 49; first | exact quietR (cs _) | exact quietR2 (cs _)))
                go_wp2_with (first
                  | (go_at_call 35; refine (ca _).mono ?_; clear ca; rintro e w1 ⟨A1, n1, c1, rfl, ho1, hb1⟩; have hB1 : Below wo.heap.size wo w1 := (below_drewN (Below.refl _ wo) _).trans hb1; have hb := cb w1 hB1; clear cb; have hn1 : Hid (n1 = k + 1) := (by unfold Hid; rw [← ho1.reads.nat_len, upD_len, HB1.out]))
                  | (go_at_call 35; refine hb.mono ?_; clear hb; rintro e w2 ⟨A2, n2, c2, rfl, ho2, hb2⟩; have hB2 : Below wo.heap.size wo w2 := hB1.trans (hb2.mono hB1.size); have hoA := ho1.below hb2 (Nat.le_refl _); have hn2 : Hid (n2 = s - (k + 1)) := (by unfold Hid; rw [← ho2.reads.nat_len, upD_len, HB2.out]))
                  | (at_builtin; refine appN el_intT rfl _ _ rfl rfl (hoA.low (B := wo.heap.size) (by simp)) rfl ho2.reads (one_vnA _) (by rw [ho1.reads.len, hn1.out, hn2.out]; unfold maxLen; omega) (by rw [ho1.reads.len, hn1.out, hn2.out]; omega) hB2.size ?_; intro v3 w3 ho3 hb3 hg3 hat3; rw [vn_upD_app _ _ _ _ HUP.out] at ho3; have hB3 : Below wo.heap.size wo w3 := hB2.trans hb3; obtain ⟨ad3, c3, e3, hO3, hl3⟩ := stFi_new ho3 HCL.out (by omega) HBEL.out.size; subst e3; have cbf := alpha_before (some ad3) (some ad0) s c3 cc0 (upD d L) (upD d l0) true w3 hO3.reads ((HO0.out.below hB3 (Nat.le_refl _)).reads) hs8 (by unfold Hid; rw [lessL_up]; exact HQ.out))
                  | (go_at_call 50; refine cbf.mono ?_; clear cbf; rintro e w4 ⟨rfl, rfl⟩))
                go_roundw
                case rel => exact ⟨k + 1, by omega, by first | rfl | go_num, by rw [HF.out]; exact ⟨ad3, c3, rfl, hO3, hl3⟩, HBEL.out.trans (hB3.mono HBEL.out.size)⟩
                case measure => have := HKK.out; simp [intOf] <;> omega
              | false =>
                have HF : Hid (firstK seg (k + 1) = some l0) := by unfold Hid; rw [HF.out, hq]; rfl
                have HQ := Lib.hid hq
                clear hq
                go_wp2
                go_quiet ((go_at_call 49; first | exact quietR (cs _) | exact quietR2 (cs _)))
                go_wp2_with (first
                  | (go_at_call 35; refine (ca _).mono ?_; clear ca; rintro e w1 ⟨A1, n1, c1, rfl, ho1, hb1⟩; have hB1 : Below wo.heap.size wo w1 := (below_drewN (Below.refl _ wo) _).trans hb1; have hb := cb w1 hB1; clear cb; have hn1 : Hid (n1 = k + 1) := (by unfold Hid; rw [← ho1.reads.nat_len, upD_len, HB1.out]))
                  | (go_at_call 35; refine hb.mono ?_; clear hb; rintro e w2 ⟨A2, n2, c2, rfl, ho2, hb2⟩; have hB2 : Below wo.heap.size wo w2 := hB1.trans (hb2.mono hB1.size); have hoA := ho1.below hb2 (Nat.le_refl _); have hn2 : Hid (n2 = s - (k + 1)) := (by unfold Hid; rw [← ho2.reads.nat_len, upD_len, HB2.out]))
                  | (at_builtin; refine appN el_intT rfl _ _ rfl rfl (hoA.low (B := wo.heap.size) (by simp)) rfl ho2.reads (one_vnA _) (by rw [ho1.reads.len, hn1.out, hn2.out]; unfold maxLen; omega) (by rw [ho1.reads.len, hn1.out, hn2.out]; omega) hB2.size ?_; intro v3 w3 ho3 hb3 hg3 hat3; rw [vn_upD_app _ _ _ _ HUP.out] at ho3; have hB3 : Below wo.heap.size wo w3 := hB2.trans hb3; obtain ⟨ad3, c3, e3, hO3, hl3⟩ := stFi_new ho3 HCL.out (by omega) HBEL.out.size; subst e3; have cbf := alpha_before (some ad3) (some ad0) s c3 cc0 (upD d L) (upD d l0) false w3 hO3.reads ((HO0.out.below hB3 (Nat.le_refl _)).reads) hs8 (by unfold Hid; rw [lessL_up]; exact HQ.out))
                  | (go_at_call 50; refine cbf.mono ?_; clear cbf; rintro e w4 ⟨rfl, rfl⟩))
                go_roundw
                case rel => exact ⟨k + 1, by omega, by first | rfl | go_num, by rw [HF.out]; exact ⟨ad0, cc0, rfl, HO0.out.below hB3 (Nat.le_refl _), Nat.lt_of_lt_of_le hlt0 hB3.size⟩, HBEL.out.trans (hB3.mono HBEL.out.size)⟩
                case measure => have := HKK.out; simp [intOf] <;> omega
          · have hne : ((x : Int) + (y : Int) + (S : Int) != (C : Int)) = true := by simp; omega
            have HF : Hid (firstK seg (k + 1) = firstK seg k) := by unfold Hid; rw [HFK.out, if_neg hcc]
            clear ca cb hcc
            go_wp2
            go_quiet ((go_at_call 49; first | exact quietR (cs _) | exact quietR2 (cs _)))
            go_wp2
            go_roundw
            case rel => exact ⟨k + 1, by omega, by first | rfl | go_num, by rw [HF.out]; exact HST.out.same (below_drewN (Below.refl _ _) _), below_drewN HBEL.out _⟩
            case measure => have := HKK.out; simp [intOf] <;> omega
        · have hks : s = k + 1 := by omega
          have hfb := first_best (ws := seg) (n := k2) HSL.out (by have := HK2.out; omega)
          rw [show k2 + 1 = k by have := HK2.out; omega] at hfb
          rw [hfb] at hst
          obtain ⟨ad0, cc0, e0, ho0, hlt0⟩ := hst
          subst e0
          have e5 : ¬ ((i + 1 + k : Nat) : Int) < (j : Int) := by have := HIJ.out; omega
          have e6 : ¬ (i : Int) + 1 + (k : Int) < (j : Int) := by have := HIJ.out; omega
          clear hfb hks
          go_wp2
          go_ret
          exact ⟨_, _, _, rfl, ho0, hbel⟩
end Go.Proofs.Ytglcljlafioleaa

/-
  quipuref.Joined: the texts.
-/
import Derived.Test.YtglcljlafioleaaJoinr
import Derived.Test.YtglcljlafioleaaApart
set_option linter.unusedVariables false
namespace Go.Proofs.Ytglcljlafioleaa
open Go.RowKit

theorem el_u8J : Elem Try.prog 22 5 (.int .u8 0) 1 := Elem.mk' Try.underlying22 (by kernel_rfl) rfl
theorem el_rowsJ : Elem Try.prog 57 22 (.slice none 0 0) 24 := Elem.mk' Try.underlying57 (by kernel_rfl) rfl
theorem joinT_at {ps : List (Nat × Nat)} {k : Nat} {z : Nat × Nat} {t0 : List Nat} (hz : ps[k]? = some z) (ht : (joinK ps k)[z.1]? = some t0) : joinK ps (k + 1) = joinK ps k ++ [t0 ++ [z.2]] ∧ joinO ps (k + 1) = joinO ps k ++ (t0 ++ [z.2]) := by
  have hD : ps.getD k (0, 0) = z := by rw [List.getD_eq_getElem?_getD, hz]; rfl
  have hT : joinT (joinK ps k) z = t0 ++ [z.2] := by unfold joinT; rw [List.getD_eq_getElem?_getD, ht]; rfl
  exact ⟨by rw [joinK, hD, hT], by rw [joinO, hD, hT]⟩
theorem joinO_le (ps : List (Nat × Nat)) : ∀ k, (joinO ps k).length ≤ k * k
  | 0 => Nat.le_refl _
  | k + 1 => by
    rw [joinO, List.length_append]
    have h1 := joinO_le ps k
    have h2 := joinK_le ps (k + 1) (joinT (joinK ps k) (ps.getD k (0, 0))) (by rw [joinK]; exact List.mem_append_right _ (List.mem_singleton.2 rfl))
    rw [show (k + 1) * (k + 1) = k * k + 2 * k + 1 by rw [Nat.succ_mul, Nat.mul_succ]; omega]
    omega
def PostJ (w : World) (L : List Nat) (e : Ending) (w' : World) : Prop :=
  Below w.heap.size w w' ∧ ((64 < L.length ∧ e = .returned (.tuple #[.slice none 0 0, .int .i64 1])) ∨ (L.length ≤ 64 ∧ ∃ A n c, e = .returned (.tuple #[.slice A n c, .int .i64 0]) ∧ Reads w' w'.heap.size A n (vn .u8 L)))
theorem postJ_far {w w' : World} {L : List Nat} (hb : Below w.heap.size w w') (h : 64 < L.length) : PostJ w L (.returned (.tuple #[.slice none 0 0, .int .i64 1])) w' := ⟨hb, .inl ⟨h, rfl⟩⟩
theorem postJ_ok {w w' : World} {L : List Nat} {A : Option Addr} {n c : Nat} (hb : Below w.heap.size w w') (h : L.length ≤ 64) (hr : Reads w' w'.heap.size A n (vn .u8 L)) : PostJ w L (.returned (.tuple #[.slice A n c, .int .i64 0])) w' := ⟨hb, .inr ⟨h, A, n, c, rfl, hr⟩⟩
theorem one_vn (K : IntKind) (l : List Nat) : ∀ u ∈ vn K l, u.oneCell' = true := by
  intro u hu
  obtain ⟨x, _, rfl⟩ := List.mem_map.1 hu
  rfl
theorem Own.withinJ {w : World} {base n c : Nat} {E : TypeId} {A : Option Addr} {xs : List Value} (h : Own w base E (.slice A n c) xs) : ∀ ad, A = some ad → ad.block < w.heap.size := by
  intro ad e
  subst e
  exact (Own.lt h ad.block rfl).2
theorem Own.ownB {w : World} {base n c : Nat} {E : TypeId} {ad : Addr} {xs : List Value} (h : Own w base E (.slice (some ad) n c) xs) : (Value.slice (some ad) n c).ownBlock = some ad.block := rfl

set_option maxRecDepth 100000 in
set_option maxHeartbeats 2000000 in
theorem ref_Joined (A : Option Addr) (n c : Nat) (xss : List (List Value)) (ps : List (Nat × Nat)) (L : List Nat) (w : World) (h : ReadsK w w.heap.size 2 A n xss) (hx : Hid (∀ (k : Nat) (z : Nat × Nat), ps[k]? = some z → xss[k]? = some [Value.int .i64 (z.1 : Int), Value.int .u8 (z.2 : Int)])) (hl : Hid (ps.length = n)) (hn : n ≤ 64)
    (hgood : Hid (∀ (k : Nat) (z : Nat × Nat), ps[k]? = some z → z.1 ≤ k)) (hL : Hid (joinO ps n = L)) :
    Calls Try.prog 13 #[.slice A n c] w (PostJ w L) := by
  have hn64 : ¬ (64 : Int) < (n : Int) := by omega
  go_enter Try.func13, Try.ntmps13
  go_wp2
  go_loopw [16] (fun v16 wr => ∃ k : Nat, k ≤ n ∧ v16 = .int .i64 k ∧ Below w.heap.size w wr) (fun v16 _ => n - (intOf v16).toNat)
  case atStart => exact ⟨0, by omega, rfl, Below.refl _ _⟩
  case round =>
    obtain ⟨k, hk, rfl, hbel⟩ := hrel
    by_cases hlt : k < n
    · have i1 : (k : Int) < (n : Int) := by omega
      obtain ⟨ad, xs, e, hb, hxs, _, hcs⟩ := (h.below hbel).at_ (i := k) (by omega)
      subst e
      obtain ⟨z, hz⟩ : ∃ z, ps[k]? = some z := ⟨_, List.getElem?_eq_getElem (by have := hl.out; omega)⟩
      have hzk := hgood.out k z hz
      rw [hx.out k z hz] at hxs
      injection hxs with hxs
      subst hxs
      have c0 := hcs 0 _ rfl
      have c1 := hcs 1 _ rfl
      rw [Nat.add_zero] at c0
      rw [add_second] at c1
      obtain ⟨p, b⟩ := z
      have p1 : ¬ (p : Int) < 0 := by omega
      have p2 : ¬ (k : Int) < (p : Int) := by
        have : p ≤ k := hzk
        omega
      clear hcs hz hzk
      go_wp2
      go_roundw
      case rel => exact ⟨k + 1, by omega, by go_num, by first | exact hbel | exact hbel.alloc hbel.size _⟩
      case measure => simp [intOf] <;> omega
    · obtain rfl : n = k := by omega
      obtain ⟨w1, rfl⟩ : ∃ x, x = wr := ⟨_, rfl⟩
      go_wp2
      have hs1 := hbel.size
      have ho0 : Own (w1.alloc (.cells #[.slice none 0 0] 22)) w.heap.size 22 (.slice (some ⟨w1.heap.size, 0, none⟩) 1 1) [.slice none 0 0] := Own.built w1 #[.slice none 0 0] 1 rfl (by unfold maxLen; omega) hs1
      have hK0 : OwnG (w1.alloc (.cells #[.slice none 0 0] 22)) w.heap.size 22 (.slice (some ⟨w1.heap.size, 0, none⟩) 1 1) ((joinK ps 0).map (vn .u8)) (Value.slice none 0 0).ownBlock := by
        refine OwnR.away ⟨_, ho0, rfl, fun k xs hk => ?_⟩
        rcases k with _ | k
        · simp [joinK] at hk
          subst hk
          exact ⟨none, 0, 0, rfl, Reads.none_, by simp, fun ad e => by cases e⟩
        · simp [joinK] at hk
      have hbel0 : Below w.heap.size w (w1.alloc (.cells #[.slice none 0 0] 22)) := hbel.alloc hs1 _
      have HK0 := Lib.hid hK0
      have HBEL0 := Lib.hid hbel0
      clear hK0 hbel0 ho0 hs1 hbel
      go_loopw [6, 7, 34] (fun tv ov i wr => ∃ k : Nat, k ≤ n ∧ i = .int .i64 (k : Int) ∧ OwnG wr w.heap.size 22 tv ((joinK ps k).map (vn .u8)) ov.ownBlock ∧ Own wr w.heap.size 5 ov (vn .u8 (joinO ps k)) ∧ Below w.heap.size w wr) (fun _ _ i _ => n - (intOf i).toNat)
      case atStart => exact ⟨0, by omega, rfl, HK0.out, Own.nil _ _ _, HBEL0.out⟩
      case round =>
        obtain ⟨k, hk, rfl, hown, hout, hbel⟩ := hrel
        obtain ⟨ov, rfl⟩ : ∃ x, x = u7 := ⟨_, rfl⟩
        clear HK0 HBEL0
        obtain ⟨wo, rfl⟩ : ∃ x, x = wr := ⟨_, rfl⟩
        by_cases hlt : k < n
        · have i1 : (k : Int) < (n : Int) := by omega
          obtain ⟨ad, xs, e, hb, hxs, _, hcs⟩ := (h.below hbel).at_ (i := k) (by omega)
          subst e
          obtain ⟨z, hz⟩ : ∃ z, ps[k]? = some z := ⟨_, List.getElem?_eq_getElem (by have := hl.out; omega)⟩
          have hzk := hgood.out k z hz
          rw [hx.out k z hz] at hxs
          injection hxs with hxs
          subst hxs
          have c0 := hcs 0 _ rfl
          have c1 := hcs 1 _ rfl
          rw [Nat.add_zero] at c0
          rw [add_second] at c1
          obtain ⟨p, b⟩ := z
          have hpk : p ≤ k := hzk
          obtain ⟨t0, ht0⟩ : ∃ t0, (joinK ps k)[p]? = some t0 := ⟨_, List.getElem?_eq_getElem (by rw [joinK_len]; omega)⟩
          obtain ⟨hJK, hJO⟩ := joinT_at hz ht0
          have HJK : Hid ((joinK ps k).map (vn .u8) ++ [vn .u8 (t0 ++ [b])] = (joinK ps (k + 1)).map (vn .u8)) := by unfold Hid; rw [hJK]; simp
          have HJO : Hid (vn .u8 (joinO ps k) ++ vn .u8 (t0 ++ [b]) = vn .u8 (joinO ps (k + 1))) := by unfold Hid; rw [hJO]; simp [vn]
          clear hJK hJO
          have ht0l := joinK_le ps k t0 (List.mem_of_getElem? ht0)
          have hoL := joinO_le ps k
          have hkk : k * k ≤ 4096 := Nat.le_trans (Nat.mul_le_mul (show k ≤ 64 by omega) (show k ≤ 64 by omega)) (Nat.le_refl _)
          have hr0 := hown.ownR
          obtain ⟨A6, c6, e6⟩ := hr0.form
          rw [List.length_map, joinK_len] at e6
          subst e6
          obtain ⟨adT, _, Ar, nr, cr, eT, hbT, hxT, hcT, hrT⟩ := hr0.rows.row (k := p) (by omega)
          subst eT
          rw [List.getElem?_map, ht0] at hxT
          injection hxT with hxT
          subst hxT
          have hnr : Hid (nr = t0.length) := by unfold Hid; rw [← hrT.nat_len]
          have p0 : (0 : Int) ≤ (p : Int) := by omega
          have p1 : (p : Int) < ((k + 1 : Nat) : Int) := by omega
          have p2 : (p : Int) < (k : Int) + 1 := by omega
          have hnr64 : nr ≤ 64 := by have := hnr.out; omega
          obtain ⟨wa, hwa⟩ : ∃ wa, wa = wo.alloc (.cells #[.int .i64 (p : Int), .int .u8 (b : Int)] 69) := ⟨_, rfl⟩
          have hsa : wa.heap.size = wo.heap.size + 1 := by rw [hwa]; simp
          have hba : Below wo.heap.size wo wa := by rw [hwa]; exact (Below.refl _ _).alloc (Nat.le_refl _) _
          have d0 : wa.cell? ⟨wo.heap.size, 0, none⟩ = some (.int .i64 (p : Int)) := by rw [hwa]; exact cell_row_new _ _ _ 0 _ rfl
          have d1 : wa.cell? ⟨wo.heap.size, 1, none⟩ = some (.int .u8 (b : Int)) := by rw [hwa]; exact cell_row_new _ _ _ 1 _ rfl
          have dT : wa.cell? (adT.add p) = some (.slice Ar nr cr) := (hba.cell (p := adT.add p) (by rw [block_of_add]; exact hbT)).trans hcT
          have hrTa := (hrT.below hba).more hba.size
          have HOWN := Lib.hid (hown.same hba)
          have HOUT := Lib.hid (hout.below hba (Nat.le_refl _))
          have HBEL := Lib.hid (hbel.trans (hba.mono hbel.size))
          have HHT := Lib.hid hrTa
          have HLT6 : Hid (∀ q, (Value.slice (some adT) (k + 1) c6).ownBlock = some q → q < wa.heap.size) := by
            intro q hq
            obtain ⟨vs0, hv0, _⟩ := hr0
            have := (Own.lt hv0 q hq).2
            omega
          have HLT7 : Hid (∀ q, ov.ownBlock = some q → q < wa.heap.size) := by
            intro q hq
            have := (Own.lt hout q hq).2
            omega
          have HNE : Hid (ov.ownBlock = none ∨ ov.ownBlock ≠ (Value.slice (some adT) (k + 1) c6).ownBlock) := by
            obtain ⟨vs0, hv0, _, haw0⟩ := hown
            cases hq : ov.ownBlock with
            | none => exact .inl rfl
            | some q => exact .inr fun e => (haw0 q hq).1 e.symm
          have HOL : Hid ((vn .u8 (joinO ps k)).length = (joinO ps k).length) := by unfold Hid; simp [vn]
          clear hcs hz hzk hr0 hrT hcT hown hout hbel ht0 hba hrTa
          go_wp2
          rw [← hwa]
          have HWA := Lib.hid hwa
          have HSA := Lib.hid hsa
          have hlw : wo.heap.size < wa.heap.size := by omega
          clear hwa hsa
          have HL0 : Hid ((vn .u8 t0).length = nr) := by unfold Hid; rw [hnr.out]; simp [vn]
          go_region_held3 (fun W => Below wa.heap.size wa W ∧ W.cell? ⟨wo.heap.size, 0, none⟩ = some (.int .i64 (p : Int)) ∧ W.cell? ⟨wo.heap.size, 1, none⟩ = some (.int .u8 (b : Int)) ∧ W.cell? (adT.add p) = some (.slice Ar nr cr))
            ((go_split_ands; first
              | exact keep3 (Below.refl _ _).drew hlw d0 hlw d1 (by rw [block_of_add]; omega) dT
              | exact keep3 (Below.alloc0 (by assumption) (Nat.le_refl _) _) hlw d0 hlw d1 (by rw [block_of_add]; omega) dT
              | exact keep3 (Below.grown0 (by assumption) (Nat.le_refl _) hg4 (fun j hj => (Own.lt ho3 j hj).1)) hlw d0 hlw d1 (by rw [block_of_add]; omega) dT
              | exact keep3 (Below.grown0 (by assumption) (Nat.le_refl _) hg3 (fun j hj => (by have hj2 : some _ = some j := hj; injection hj2 with hj2; subst hj2; first | exact Nat.le_refl _ | exact Nat.le_succ _))) hlw d0 hlw d1 (by rw [block_of_add]; omega) dT))
            (first
              | ((refine step_appG el_u8J rfl (.tmp 38) (.tmp 43) (by rfl) (by rfl) (xs := []) (base := wa.heap.size) (by first | exact own_empty wa.drew _ _ (Nat.le_refl _) | exact (own_empty wa.drew _ _ (Nat.le_refl _)).alloc _ | exact own_empty2 wa.drew _ _ _ (Nat.le_refl _)) (by rfl) (B := wa.heap.size) (by go_split_ands; exact HHT.out.below (by assumption)) (one_vn .u8 t0) (by show 0 + nr ≤ maxLen; unfold maxLen; omega) (by show (0 + nr) * 1 ≤ _; omega) (by go_split_ands; exact Below.size (by assumption)) ?_); intro v3 w3 ho3 hg3 _)
              | ((refine step_appG el_u8J rfl (.tmp 44) (.tmp 47) (by rfl) (by rfl) (xs := [] ++ vn .u8 t0) (base := wa.heap.size) (by first | exact ho3.alloc _ | exact ho3) (by rfl) (B := w3.heap.size + 1) (news := [.int .u8 (b : Int)]) (by first | exact (reads_oneV w3 _ _) | exact (reads_one2 _ _ _ hg3 rfl).more (by have := hg3.size; simp at this; omega) | exact (reads_one3 _ _ _ hg3 rfl).more (by have := hg3.size; simp at this; omega)) (by intro u hu; rw [List.mem_singleton.1 hu]; rfl) (by rw [List.nil_append, HL0.out]; unfold maxLen; omega) (by rw [List.nil_append, HL0.out]; omega) (by go_split_ands; exact Below.size (by assumption)) ?_); intro v4 w4 ho4 hg4 _))
          all_goals
            have hbW : Below wa.heap.size wa w4 := by go_split_ands; assumption
            obtain ⟨A10, c10, e10⟩ := ho4.form
            have hv4 : [] ++ vn .u8 t0 ++ [Value.int .u8 (b : Int)] = vn .u8 (t0 ++ [b]) := by simp [vn]
            rw [hv4] at ho4 e10
            obtain ⟨n10, hn10⟩ : ∃ q, q = (vn .u8 (t0 ++ [b])).length := ⟨_, rfl⟩
            rw [← hn10] at e10
            subst e10
            have hn10b : n10 = nr + 1 := by rw [hn10, hnr.out]; simp [vn]
            have hn10c : n10 ≤ 65 := by omega
            have hown4 := HOWN.out.same hbW
            have hout4 := HOUT.out.below hbW (Nat.le_refl _)
            have hbel4 := HBEL.out.trans (hbW.mono HBEL.out.size)
            have hr4 := ho4.reads
            have HW := Lib.hid (ho4.withinJ)
            have hbey := Lib.hid (ho4.beyond)
            clear hv4 hn10 hn10b
            obtain ⟨vs, hv, hrw, haw⟩ := hown4
            have hvl : vs.length = k + 1 := by rw [hrw.1, List.length_map, joinK_len]
            have HVL := Lib.hid hvl
            clear hvl
            go_wp2_with (first
              | (at_builtin; refine app1 el_rowsJ rfl _ _ rfl rfl hv _ _ rfl rfl (by rw [HVL.out]; unfold maxLen; omega) (by rw [HVL.out]; omega) hbel4.size ?_; intro v5 w5 ho5 hb5 hg5 hat5; have hpush := away_push hrw haw hr4 (by unfold maxLen; omega) (fun ad ha hq => by have h1 := hbey.out ad ha; have h2 := HLT6.out _ hq; omega) HW.out (fun ad ha hq => by have h1 := hbey.out ad ha; have h2 := HLT7.out _ hq; omega) ho5 hg5 hat5; have hout5 := hout4.kept hg5 HNE.out; have hr5 := hr4.keepNe hg5 (Nat.le_refl _) (fun ad ha hq => by have h1 := hbey.out ad ha; have h2 := HLT6.out _ hq; omega); have hbel5 := hbel4.trans hb5; clear hv hout4 hr4)
              | (at_builtin; refine appN el_u8J rfl _ _ rfl rfl hout5 rfl hr5 (one_vn .u8 _) (by rw [HOL.out]; unfold maxLen; omega) (by rw [HOL.out]; omega) hbel5.size ?_; intro v6 w6 ho6 hb6 hg6 hat6))
            rw [HJK.out] at hpush
            rw [HJO.out] at ho6
            have hpush6 := hpush.kept hg6 hat6 (fun q hq => (Own.lt ho6 q hq).2)
            have hbel6 := hbel5.trans hb6
            go_roundw
            case rel => exact ⟨k + 1, by omega, by go_num, hpush6, ho6, hbel6⟩
            case measure => simp [intOf] <;> omega
        · obtain rfl : n = k := by omega
          obtain ⟨A7, c7, e7⟩ := hout.form
          have hvl : (vn .u8 (joinO ps n)).length = L.length := by rw [hL.out]; simp [vn]
          rw [hvl] at e7
          subst e7
          rw [hL.out] at hout
          have HOUT := Lib.hid hout
          clear hvl hout
          by_cases h64 : 64 < L.length
          · have hd : (64 : Int) < (L.length : Int) := by omega
            generalize hm : L.length = m at *
            have HM := Lib.hid hm
            clear hm
            go_wp2
            go_ret2
            exact postJ_far hbel (by rw [HM.out]; exact h64)
          · have hd : ¬ (64 : Int) < (L.length : Int) := by omega
            generalize hm : L.length = m at *
            have HM := Lib.hid hm
            clear hm
            go_wp2
            go_ret2
            exact postJ_ok hbel (by rw [HM.out]; omega) HOUT.out.reads
end Go.Proofs.Ytglcljlafioleaa

/-
  slices.symMergeCmpFunc where the right run holds one element.
-/
import Derived.Test.YtdidahafbcddeaaSymo
set_option linter.unusedVariables false
namespace Go.Proofs.Ytdidahafbcddeaa
open Go.RowKit Go.Shelf Go.Sort

set_option maxRecDepth 100000 in
set_option maxHeartbeats 800000 in
theorem sym_merge_r (M blk off cap N a m b g : Nat) (cb : Array Value) (cf : Fin (M + 1) → Fin (M + 1) → Int) (K : Fin (M + 1) → Nat) (d : Array (Fin (M + 1))) (w0 w : World) (R : Row0 M w0 blk off N) (S : SrtW M w0 blk off N d w)
    (eg : ∀ args w, (callFunc g args).run Try.prog w = .ok (.enter g args) w) (HC : CmpF M g cb cf w0 blk off N) (h1 : a + 1 < m) (h2 : b = m + 1) (h3 : b ≤ N) (hN : N ≤ 1000) (hr : Srt K a m d) (hc : Crs K (ltC cf) a m b d) :
    Calls Try.prog 67 #[.slice (some ⟨blk, off, none⟩) N cap, .int .i64 (a : Int), .int .i64 (m : Int), .int .i64 (b : Int), .func (.func g) #[] cb] w (MrgP M K w0 blk off N a b d) := by
  have HC := Lib.hid HC
  have HR := Lib.hid hr
  have HX := Lib.hid hc
  have e1 : (b : Int) - (m : Int) = 1 := by omega
  have e0 : ¬ (m : Int) - (a : Int) = 1 := by omega
  have e00 : decide ((m : Int) - (a : Int) = 1) = false := decide_eq_false e0
  have HM := Lib.hid h2
  have hds := Lib.hid S.size
  have hmN : m < N := by omega
  clear hr hc h2
  go_enter Try.func67, Try.ntmps67
  go_wp2
  go_loopw [14, 15] (fun iv jv wr => ∃ (i j : Nat), iv = .int .i64 (i : Int) ∧ jv = .int .i64 (j : Int) ∧ a ≤ i ∧ i ≤ j ∧ j ≤ m ∧ SrtW M w0 blk off N d wr ∧ Hid (i = a ∨ K d[i - 1]! ≤ K d[m]!) ∧ Hid (j = m ∨ K d[m]! ≤ K d[j]!)) (fun iv jv _ => (intOf jv).toNat - (intOf iv).toNat)
  case atStart => exact ⟨a, m, rfl, rfl, Nat.le_refl _, by omega, Nat.le_refl _, S, .inl rfl, .inl rfl⟩
  case round =>
    obtain ⟨i, j, rfl, rfl, hmi, hij, hjb, S1, hI, hJ⟩ := hrel
    obtain ⟨wo, rfl⟩ : ∃ x, x = wr := ⟨_, rfl⟩
    clear S
    by_cases hlt : i < j
    · have i1 : (i : Int) < (j : Int) := by omega
      obtain ⟨h, hh⟩ : ∃ h, (i + j) / 2 = h := ⟨_, rfl⟩
      have hhz : ((i : Int) + (j : Int)) / 2 = (h : Int) := by omega
      have ih : i ≤ h := by omega
      have hj : h < j := by omega
      have c1 := S1.cell R (t := m) hmN
      have c2 := S1.cell R (t := h) (by omega)
      have cm := fun q => HC.out d _ (S1.drewN q) (d[m]!) (d[h]!)
      have HK := Lib.hid (HX.out h m (by omega) (by omega) (Nat.le_refl _) (by have := HM.out; omega))
      have ha : (m : Int) < (N : Int) := by omega
      obtain ⟨v, hv⟩ : ∃ v, cf (d[m]!) (d[h]!) = v := ⟨_, rfl⟩
      rw [hv] at cm
      have HV := Lib.hid hv
      obtain ⟨x, hx⟩ : ∃ x, (d[h]!).val = x := ⟨_, rfl⟩
      obtain ⟨y, hy⟩ : ∃ y, (d[m]!).val = y := ⟨_, rfl⟩
      rw [hx, hy] at cm
      rw [hy] at c1
      rw [hx] at c2
      have CM := Lib.hid cm
      clear cm hx hy hv hh
      go_wp2_with fail
      have hhN : (h : Int) < (N : Int) := by omega
      go_quiet (first | (go_at_fn g; refine Calls.quiet_of (CM.out _)))
      have S2 := fun q => S1.drewN q
      have HS := Lib.hid S2
      clear S1 S2 c1 c2
      by_cases hv : v < 0
      · have hk : K d[m]! < K d[h]! := HK.out.1 (by show cf _ _ < 0; rw [HV.out]; exact hv)
        have hk2 := Lib.hid hk
        have dv : (!decide (v < 0)) = false := by simp [hv]
        clear hk HK HV CM
        rw [dv]
        clear dv
        go_wp2
        go_roundw
        case rel => exact ⟨i, h, rfl, by go_num, hmi, by omega, by omega, HS.out _, hI, .inr (Nat.le_of_lt hk2.out)⟩
        case measure => simp [intOf] <;> omega
      · have hk : K d[h]! ≤ K d[m]! := Nat.not_lt.1 fun hh => hv (by have : cf _ _ < 0 := HK.out.2 hh; rw [HV.out] at this; exact this)
        have hk2 := Lib.hid hk
        have dv : (!decide (v < 0)) = true := by simp [hv]
        clear hk HK HV CM
        rw [dv]
        clear dv
        go_wp2
        go_roundw
        case rel => exact ⟨h + 1, j, by go_num, rfl, by omega, by omega, hjb, HS.out _, .inr hk2.out, hJ⟩
        case measure => simp [intOf] <;> omega
    · obtain rfl : i = j := by omega
      have i1 : ¬ (i : Int) < (i : Int) := by omega
      go_wp2
      go_loopw [17] (fun kv wr => ∃ (k : Nat) (dk : Array (Fin (M + 1))), kv = .int .i64 (k : Int) ∧ i ≤ k ∧ k ≤ m ∧ SrtW M w0 blk off N dk wr ∧ Hid (Dn a b m k d dk)) (fun kv _ => (intOf kv).toNat)
      case atStart => exact ⟨m, d, rfl, hjb, Nat.le_refl _, S1, Dn.start⟩
      case round =>
        obtain ⟨k, dk, rfl, hak, hki, S2, hU⟩ := hrel
        obtain ⟨wk, rfl⟩ : ∃ x, x = wr := ⟨_, rfl⟩
        clear S1
        by_cases hlt2 : i < k
        · obtain ⟨p1, rfl⟩ : ∃ p, k = p + 1 := ⟨k - 1, by omega⟩
          obtain ⟨q1, hq1⟩ : ∃ q, p1 + 1 = q := ⟨_, rfl⟩
          have eq : ((p1 + 1 : Nat) : Int) = (q1 : Int) := by omega
          have i2 : (i : Int) < (q1 : Int) := by omega
          have e2 : ((q1 : Int) - 1).toNat = p1 := by omega
          have e3 : (0 : Int) ≤ (q1 : Int) - 1 := by omega
          have e4 : (q1 : Int) - 1 < (N : Int) := by omega
          have e5 : (q1 : Int) < (N : Int) := by omega
          have hne : q1 ≠ p1 := by omega
          have c1 := S2.cell R (t := q1) (by omega)
          have c2 := S2.cell R (t := p1) (by omega)
          have f1 := S2.free R (t := q1) (by omega)
          have f2 := S2.free R (t := p1) (by omega)
          have S3 := S2.swap (i := q1) (j := p1) (by omega) (by omega) rfl rfl
          have hU2 := hU.out.step (by omega) hki (by have := HM.out; omega) (by rw [hds.out]; exact h3)
          rw [hq1] at hU2
          have HU := Lib.hid hU2
          have HP := Lib.hid hq1
          generalize (dk[q1]!).val = x at *
          generalize (dk[p1]!).val = y at *
          have HS := Lib.hid S3
          rw [eq]
          clear S2 S3 hU hU2 hq1 eq
          go_wp2_with fail
          go_region
          all_goals go_wp2
          go_roundw
          case rel => exact ⟨p1, _, by have := HP.out; go_num, by omega, by omega, HS.out, HU.out⟩
          case measure => simp [intOf] <;> omega
        · obtain rfl : i = k := by omega
          have i2 : ¬ (i : Int) < (i : Int) := by omega
          have hm := HM.out
          have hfin : Srt K a (m + 1) dk := by
            rw [hm] at hU
            refine hU.out.sorted HR.out hmi hki (fun q g1 g2 => ?_) (fun q g1 g2 => ?_)
            · rcases hI with e | e
              · omega
              · have := HR.out.le (i := q) (j := i - 1) (by omega) (by omega) (by omega)
                omega
            · rcases hJ with e | e
              · omega
              · have := HR.out.le (i := i) (j := q) (by omega) (by omega) g2
                omega
          rw [← hm] at hfin
          have HF := Lib.hid hfin
          clear hI hJ hfin hm
          go_wp2
          go_end0
          exact ⟨rfl, dk, S2, hU.out.perm, HF.out⟩
end Go.Proofs.Ytdidahafbcddeaa

/-
  slices.symMergeCmpFunc where the left run holds one element, and where the right one does.
-/
import Derived.Test.YtdidahafbcddeaaSymr
set_option linter.unusedVariables false
namespace Go.Proofs.Ytdidahafbcddeaa
open Go.RowKit Go.Shelf Go.Sort

/-- what is asked of the comparison -/
def CmpF (M : Nat) (g : Nat) (cb : Array Value) (cf : Fin (M + 1) → Fin (M + 1) → Int) (w0 : World) (blk off N : Nat) : Prop :=
  ∀ (d : Array (Fin (M + 1))) (W : World), SrtW M w0 blk off N d W → ∀ x y : Fin (M + 1), Calls Try.prog g (#[.int .i64 (x.val : Int), .int .i64 (y.val : Int)] ++ cb) W fun e w' => e = .returned (.int .i64 (cf x y)) ∧ ∃ q, w' = W.drewN q
/-- what symMerge leaves -/
def MrgP (M : Nat) (K : Fin (M + 1) → Nat) (w0 : World) (blk off N a b : Nat) (d : Array (Fin (M + 1))) (e : Ending) (w' : World) : Prop :=
  e = .returned (.tuple #[]) ∧ ∃ d', SrtW M w0 blk off N d' w' ∧ PermIn a b d d' ∧ Srt K a b d'
abbrev ltC {M : Nat} (cf : Fin (M + 1) → Fin (M + 1) → Int) : Fin (M + 1) → Fin (M + 1) → Prop := fun x y => cf x y < 0
theorem half_int (i j : Nat) (h : i + j < 4611686018427387904) : (((i : Int) + (j : Int)) / 2) = (((i + j) / 2 : Nat) : Int) := by omega
set_option maxRecDepth 100000 in
set_option maxHeartbeats 800000 in
theorem sym_merge_l (M blk off cap N a m b g : Nat) (cb : Array Value) (cf : Fin (M + 1) → Fin (M + 1) → Int) (K : Fin (M + 1) → Nat) (d : Array (Fin (M + 1))) (w0 w : World) (R : Row0 M w0 blk off N) (S : SrtW M w0 blk off N d w)
    (eg : ∀ args w, (callFunc g args).run Try.prog w = .ok (.enter g args) w) (HC : CmpF M g cb cf w0 blk off N) (h1 : m = a + 1) (h2 : m < b) (h3 : b ≤ N) (hN : N ≤ 1000) (hr : Srt K m b d) (hc : Crs K (ltC cf) a m b d) :
    Calls Try.prog 67 #[.slice (some ⟨blk, off, none⟩) N cap, .int .i64 (a : Int), .int .i64 (m : Int), .int .i64 (b : Int), .func (.func g) #[] cb] w (MrgP M K w0 blk off N a b d) := by
  have HC := Lib.hid HC
  have HR := Lib.hid hr
  have HX := Lib.hid hc
  have e1 : (m : Int) - (a : Int) = 1 := by omega
  have HM := Lib.hid h1
  have hds := Lib.hid S.size
  clear hr hc h1
  go_enter Try.func67, Try.ntmps67
  go_wp2
  go_loopw [10, 11] (fun iv jv wr => ∃ (i j : Nat), iv = .int .i64 (i : Int) ∧ jv = .int .i64 (j : Int) ∧ m ≤ i ∧ i ≤ j ∧ j ≤ b ∧ SrtW M w0 blk off N d wr ∧ Hid (i = m ∨ K d[i - 1]! < K d[a]!) ∧ Hid (j = b ∨ K d[a]! ≤ K d[j]!)) (fun iv jv _ => (intOf jv).toNat - (intOf iv).toNat)
  case atStart => exact ⟨m, b, rfl, rfl, Nat.le_refl _, by omega, Nat.le_refl _, S, .inl rfl, .inl rfl⟩
  case round =>
    obtain ⟨i, j, rfl, rfl, hmi, hij, hjb, S1, hI, hJ⟩ := hrel
    obtain ⟨wo, rfl⟩ : ∃ x, x = wr := ⟨_, rfl⟩
    clear S
    by_cases hlt : i < j
    · have i1 : (i : Int) < (j : Int) := by omega
      obtain ⟨h, hh⟩ : ∃ h, (i + j) / 2 = h := ⟨_, rfl⟩
      have hhz : ((i : Int) + (j : Int)) / 2 = (h : Int) := by omega
      have ih : i ≤ h := by omega
      have hj : h < j := by omega
      have c1 := S1.cell R (t := a) (by have := HM.out; omega)
      have c2 := S1.cell R (t := h) (by omega)
      have cm := fun q => HC.out d _ (S1.drewN q) (d[h]!) (d[a]!)
      have HK := Lib.hid (HX.out a h (Nat.le_refl _) (by have := HM.out; omega) (by omega) (by omega))
      have HH := Lib.hid hh
      have ha : (a : Int) < (N : Int) := by have := HM.out; omega
      obtain ⟨v, hv⟩ : ∃ v, cf (d[h]!) (d[a]!) = v := ⟨_, rfl⟩
      rw [hv] at cm
      have HV := Lib.hid hv
      obtain ⟨x, hx⟩ : ∃ x, (d[h]!).val = x := ⟨_, rfl⟩
      obtain ⟨y, hy⟩ : ∃ y, (d[a]!).val = y := ⟨_, rfl⟩
      rw [hx, hy] at cm
      rw [hy] at c1
      rw [hx] at c2
      have CM := Lib.hid cm
      clear cm hx hy hv hh
      go_wp2_with fail
      have hhN : (h : Int) < (N : Int) := by omega
      go_quiet (first | (go_at_fn g; refine Calls.quiet_of (CM.out _)))
      have S2 := fun q => S1.drewN q
      have HS := Lib.hid S2
      clear S1 S2 c1 c2
      by_cases hv : v < 0
      · have hk : K d[h]! < K d[a]! := HK.out.1 (by show cf _ _ < 0; rw [HV.out]; exact hv)
        have hk2 := Lib.hid hk
        clear hk HK HV CM
        go_wp2
        go_roundw
        case rel => exact ⟨h + 1, j, by go_num, rfl, by omega, by omega, hjb, HS.out _, .inr hk2.out, hJ⟩
        case measure => simp [intOf] <;> omega
      · have hk : K d[a]! ≤ K d[h]! := Nat.not_lt.1 fun hh => hv (by have : cf _ _ < 0 := HK.out.2 hh; rw [HV.out] at this; exact this)
        have hk2 := Lib.hid hk
        clear hk HK HV CM
        go_wp2
        go_roundw
        case rel => exact ⟨i, h, rfl, by go_num, hmi, by omega, by omega, HS.out _, hI, .inr hk2.out⟩
        case measure => simp [intOf] <;> omega
    · obtain rfl : i = j := by omega
      have i1 : ¬ (i : Int) < (i : Int) := by omega
      go_wp2
      go_loopw [13] (fun kv wr => ∃ (k : Nat) (dk : Array (Fin (M + 1))), kv = .int .i64 (k : Int) ∧ a ≤ k ∧ k ≤ i - 1 ∧ SrtW M w0 blk off N dk wr ∧ Hid (Up a b k d dk)) (fun kv _ => i - (intOf kv).toNat)
      case atStart => exact ⟨a, d, rfl, Nat.le_refl _, by have := HM.out; omega, S1, Up.start⟩
      case round =>
        obtain ⟨k, dk, rfl, hak, hki, S2, hU⟩ := hrel
        obtain ⟨wk, rfl⟩ : ∃ x, x = wr := ⟨_, rfl⟩
        clear S1
        by_cases hlt2 : k < i - 1
        · have i2 : (k : Int) < (i : Int) - 1 := by omega
          obtain ⟨p1, hp1⟩ : ∃ p, k + 1 = p := ⟨_, rfl⟩
          have e2 : ((k : Int) + 1).toNat = p1 := by omega
          have e3 : (0 : Int) ≤ (k : Int) + 1 := by omega
          have e4 : (k : Int) + 1 < (N : Int) := by omega
          have e5 : (k : Int) < (N : Int) := by omega
          have hne : k ≠ p1 := by omega
          have c1 := S2.cell R (t := k) (by omega)
          have c2 := S2.cell R (t := p1) (by omega)
          have f1 := S2.free R (t := k) (by omega)
          have f2 := S2.free R (t := p1) (by omega)
          have S3 := S2.swap (i := k) (j := p1) (by omega) (by omega) rfl rfl
          have hU2 := hU.out.step hak (by omega) (by rw [hds.out]; exact h3)
          rw [hp1] at hU2
          have HU := Lib.hid hU2
          have HP := Lib.hid hp1
          generalize (dk[k]!).val = x at *
          generalize (dk[p1]!).val = y at *
          have HS := Lib.hid S3
          clear S2 S3 hU hU2 hp1
          go_wp2_with fail
          go_region
          all_goals go_wp2
          go_roundw
          case rel => exact ⟨p1, _, by have := HP.out; go_num, by have := HP.out; omega, by have := HP.out; omega, HS.out, HU.out⟩
          case measure => simp [intOf] <;> omega
        · obtain rfl : k = i - 1 := by omega
          have i2 : ¬ ((i - 1 : Nat) : Int) < (i : Int) - 1 := by omega
          have hm := HM.out
          have hfin : Srt K a b dk := by
            refine hU.out.sorted (by rw [← hm]; exact HR.out) hak (by omega) (fun q g1 g2 => ?_) (fun q g1 g2 => ?_)
            · rcases hI with e | e
              · omega
              · have := HR.out.le (i := q) (j := i - 1) (by omega) g2 (by omega)
                omega
            · rcases hJ with e | e
              · omega
              · have := HR.out.le (i := i) (j := q) (by omega) (by omega) g2
                omega
          have HF := Lib.hid hfin
          clear hI hJ hfin
          go_wp2
          go_end0
          exact ⟨rfl, dk, S2, hU.out.perm, HF.out⟩
end Go.Proofs.Ytdidahafbcddeaa

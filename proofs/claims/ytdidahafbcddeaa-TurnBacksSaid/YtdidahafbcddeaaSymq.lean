/-
  slices.symMergeCmpFunc: both runs hold more than one element; then any two runs.
-/
import Derived.Test.YtdidahafbcddeaaSymp
set_option linter.unusedVariables false
namespace Go.Proofs.Ytdidahafbcddeaa
open Go.RowKit Go.Shelf Go.Sort

/-- the merge's contract for at most L elements -/
def MrgC (M blk off cap N g : Nat) (cb : Array Value) (cf : Fin (M + 1) → Fin (M + 1) → Int) (K : Fin (M + 1) → Nat) (w0 : World) (L : Nat) : Prop :=
  ∀ (a m b : Nat) (d : Array (Fin (M + 1))) (w : World), b - a ≤ L → a < m → m < b → b ≤ N → SrtW M w0 blk off N d w → Srt K a m d → Srt K m b d → Crs K (ltC cf) a m b d →
    Calls Try.prog 67 #[.slice (some ⟨blk, off, none⟩) N cap, .int .i64 (a : Int), .int .i64 (m : Int), .int .i64 (b : Int), .func (.func g) #[] cb] w (MrgP M K w0 blk off N a b d)
theorem lh_bounds {a b m mid n lo hi : Nat} (h1 : a + 1 < m) (h2 : m + 1 < b) (hmid : (a + b) / 2 = mid) (hn : mid + m = n) (h : (m > mid ∧ lo = n - b ∧ hi = mid) ∨ (m ≤ mid ∧ lo = a ∧ hi = m)) : a ≤ lo ∧ lo ≤ hi ∧ hi ≤ m ∧ a < mid ∧ mid < b := by
  rcases h with ⟨c, rfl, rfl⟩ | ⟨c, rfl, rfl⟩
  · refine ⟨by omega, by omega, by omega, by omega, by omega⟩
  · refine ⟨by omega, by omega, by omega, by omega, by omega⟩
theorem lh_q {a b m mid n lo hi c q : Nat} (h1 : a + 1 < m) (h2 : m + 1 < b) (hmid : (a + b) / 2 = mid) (hn : mid + m = n) (h : (m > mid ∧ lo = n - b ∧ hi = mid) ∨ (m ≤ mid ∧ lo = a ∧ hi = m)) (hlc : lo ≤ c) (hc : c < hi) (hq : n - 1 - c = q) : m ≤ q ∧ q < b ∧ c + 1 + q = n := by
  rcases h with ⟨e, rfl, rfl⟩ | ⟨e, rfl, rfl⟩
  · refine ⟨by omega, by omega, by omega⟩
  · refine ⟨by omega, by omega, by omega⟩
theorem lh_t {s n t m mid : Nat} (ht : n - s = t) (hn : mid + m = n) (hs : s ≤ m) : mid + m = s + t ∧ (n : Int) - (s : Int) = (t : Int) := ⟨by omega, by omega⟩
set_option maxRecDepth 100000 in
set_option maxHeartbeats 1600000 in
theorem sym_merge_step (M blk off cap N a m b g L : Nat) (cb : Array Value) (cf : Fin (M + 1) → Fin (M + 1) → Int) (K : Fin (M + 1) → Nat) (d : Array (Fin (M + 1))) (w0 w : World) (R : Row0 M w0 blk off N) (S : SrtW M w0 blk off N d w)
    (eg : ∀ args w, (callFunc g args).run Try.prog w = .ok (.enter g args) w) (HC : CmpF M g cb cf w0 blk off N) (IH : MrgC M blk off cap N g cb cf K w0 L) (h1 : a + 1 < m) (h2 : m + 1 < b) (h3 : b ≤ N) (hL : b - a ≤ L + 1) (hN : N ≤ 1000) (hl : Srt K a m d) (hr : Srt K m b d) (hc : Crs K (ltC cf) a m b d) :
    Calls Try.prog 67 #[.slice (some ⟨blk, off, none⟩) N cap, .int .i64 (a : Int), .int .i64 (m : Int), .int .i64 (b : Int), .func (.func g) #[] cb] w (MrgP M K w0 blk off N a b d) := by
  have HC := Lib.hid HC
  have HI := Lib.hid IH
  have HL := Lib.hid hl
  have HR := Lib.hid hr
  have HX := Lib.hid hc
  have e1 : ¬ (b : Int) - (m : Int) = 1 := by omega
  have e0 : ¬ (m : Int) - (a : Int) = 1 := by omega
  have e1b : ((b : Int) - (m : Int) == 1) = false := by rw [beq_eq_false_iff_ne]; exact e1
  have e0b : ((m : Int) - (a : Int) == 1) = false := by rw [beq_eq_false_iff_ne]; exact e0
  have hds := Lib.hid S.size
  obtain ⟨mid, hmid⟩ : ∃ mid, (a + b) / 2 = mid := ⟨_, rfl⟩
  have emid : ((a : Int) + (b : Int)) / 2 = (mid : Int) := by omega
  obtain ⟨n, hn⟩ : ∃ n, mid + m = n := ⟨_, rfl⟩
  have en : (mid : Int) + (m : Int) = (n : Int) := by omega
  have ep : (n : Int) - 1 = ((n - 1 : Nat) : Int) := by omega
  obtain ⟨p, hp⟩ : ∃ p, n - 1 = p := ⟨_, rfl⟩
  rw [hp] at ep
  obtain ⟨lo, hi, hlh⟩ : ∃ lo hi, (m > mid ∧ lo = n - b ∧ hi = mid) ∨ (m ≤ mid ∧ lo = a ∧ hi = m) := by
    rcases Nat.lt_or_ge mid m with c | c
    · exact ⟨n - b, mid, .inl ⟨c, rfl, rfl⟩⟩
    · exact ⟨a, m, .inr ⟨c, rfl, rfl⟩⟩
  obtain ⟨hlo, hlh2, hhim, hamid, hmidb⟩ := lh_bounds h1 h2 hmid hn hlh
  have HMID := Lib.hid hmid
  have HNN := Lib.hid hn
  have HPP := Lib.hid hp
  have HLH := Lib.hid hlh
  clear hl hr hc hmid hn hp hlh
  go_enter Try.func67, Try.ntmps67
  go_upto_if 140 with fail
  go_cut [20, 21] from 138 to 146 (fun sv rv w' => sv = .int .i64 (lo : Int) ∧ rv = .int .i64 (hi : Int) ∧ w' = w)
  case first =>
    rcases HLH.out with ⟨c, c1, c2⟩ | ⟨c, c1, c2⟩
    · have x1 : (mid : Int) < (m : Int) := by omega
      have x2 : (n : Int) - (b : Int) = (lo : Int) := by have := HNN.out; have := HMID.out; omega
      have C2 := Lib.hid c2
      clear c1 c2
      go_wp2
      go_meet
      exact ⟨rfl, by rw [C2.out], rfl⟩
    · have x1 : ¬ (mid : Int) < (m : Int) := by omega
      have C1 := Lib.hid c1
      have C2 := Lib.hid c2
      clear c1 c2
      go_wp2
      go_meet
      exact ⟨by rw [C1.out], by rw [C2.out], rfl⟩
  case rest =>
    obtain ⟨rfl, rfl, rfl⟩ := hcut
    go_wp2
    go_loopw [20, 21] (fun sv rv wr => ∃ (s r : Nat), sv = .int .i64 (s : Int) ∧ rv = .int .i64 (r : Int) ∧ lo ≤ s ∧ s ≤ r ∧ r ≤ hi ∧ SrtW M w0 blk off N d wr ∧ Hid (s = lo ∨ K d[s - 1]! ≤ K d[n - s]!) ∧ Hid (r = hi ∨ K d[n - 1 - r]! < K d[r]!)) (fun iv jv _ => (intOf jv).toNat - (intOf iv).toNat)
    case atStart => exact ⟨lo, hi, rfl, rfl, Nat.le_refl _, hlh2, Nat.le_refl _, S, .inl rfl, .inl rfl⟩
    case round =>
      obtain ⟨s, r, rfl, rfl, hls, hsr, hrh, S1, hI, hJ⟩ := hrel
      obtain ⟨wo, rfl⟩ : ∃ x, x = wr := ⟨_, rfl⟩
      clear S
      by_cases hlt : s < r
      · have i1 : (s : Int) < (r : Int) := by omega
        obtain ⟨c, hh⟩ : ∃ c, (s + r) / 2 = c := ⟨_, rfl⟩
        have hhz : ((s : Int) + (r : Int)) / 2 = (c : Int) := by omega
        have hsc : s ≤ c := by omega
        have hcr : c < r := by omega
        obtain ⟨q, hq⟩ : ∃ q, n - 1 - c = q := ⟨_, rfl⟩
        have hqz := lh_q h1 h2 HMID.out HNN.out HLH.out (by omega) (by omega) hq
        have eq : (p : Int) - (c : Int) = (q : Int) := by have := HPP.out; have := hqz.2.2; omega
        have hqb := hqz.2.1
        have c1 := S1.cell R (t := q) (by omega)
        have c2 := S1.cell R (t := c) (by omega)
        have cm := fun q2 => HC.out d _ (S1.drewN q2) (d[q]!) (d[c]!)
        have HK := Lib.hid (HX.out c q (by omega) (by omega) hqz.1 hqz.2.1)
        clear hqz
        have hq1 : (q : Int) < (N : Int) := by omega
        have hc1 : (c : Int) < (N : Int) := by omega
        obtain ⟨v, hv⟩ : ∃ v, cf (d[q]!) (d[c]!) = v := ⟨_, rfl⟩
        rw [hv] at cm
        have HV := Lib.hid hv
        obtain ⟨x, hx⟩ : ∃ x, (d[c]!).val = x := ⟨_, rfl⟩
        obtain ⟨y, hy⟩ : ∃ y, (d[q]!).val = y := ⟨_, rfl⟩
        rw [hx, hy] at cm
        rw [hy] at c1
        rw [hx] at c2
        have CM := Lib.hid cm
        have HQ := Lib.hid hq
        clear cm hx hy hv hh hq
        go_wp2_with fail
        go_quiet (first | (go_at_fn g; refine Calls.quiet_of (CM.out _)))
        have S2 := fun q => S1.drewN q
        have HS := Lib.hid S2
        clear S1 S2 c1 c2
        by_cases hv : v < 0
        · have hk : K d[q]! < K d[c]! := HK.out.1 (by show cf _ _ < 0; rw [HV.out]; exact hv)
          have hk2 : Hid (c = hi ∨ K d[n - 1 - c]! < K d[c]!) := .inr (by rw [HQ.out]; exact hk)
          have dv : (!decide (v < 0)) = false := by simp [hv]
          clear hk HK HV CM
          rw [dv]
          clear dv
          go_wp2
          go_roundw
          case rel => exact ⟨s, c, rfl, by go_num, hls, by omega, by omega, HS.out _, hI, hk2⟩
          case measure => simp [intOf] <;> omega
        · have hk : K d[c]! ≤ K d[q]! := Nat.not_lt.1 fun hh => hv (by have : cf _ _ < 0 := HK.out.2 hh; rw [HV.out] at this; exact this)
          have hk2 : Hid (c + 1 = lo ∨ K d[c + 1 - 1]! ≤ K d[n - (c + 1)]!) := .inr (by rw [show n - (c + 1) = q by have := HQ.out; omega, Nat.add_sub_cancel]; exact hk)
          have dv : (!decide (v < 0)) = true := by simp [hv]
          clear hk HK HV CM
          rw [dv]
          clear dv
          go_wp2
          go_roundw
          case rel => exact ⟨c + 1, r, by go_num, rfl, by omega, by omega, hrh, HS.out _, hk2, hJ⟩
          case measure => simp [intOf] <;> omega
      · obtain rfl : s = r := by omega
        have i1 : ¬ (s : Int) < (s : Int) := by omega
        have hko : CutOK K a m b s (n - s) d := cut_ok HL.out HR.out HMID.out.symm (by omega) (by omega) HNN.out.symm HLH.out hls hrh hI.out hJ.out
        obtain ⟨t, ht⟩ : ∃ t, n - s = t := ⟨_, rfl⟩
        rw [ht] at hko
        have KO := Lib.hid hko
        obtain ⟨hst, et⟩ := lh_t ht HNN.out hko.sm
        have k1 := hko.as
        have k2 := hko.sm
        have k3 := hko.mt
        have k4 := hko.tb
        have HST := Lib.hid hst
        have hsmid : s ≤ mid := by omega
        have hmidt : mid ≤ t := by omega
        clear hI hJ hko hst ht
        go_upto_region 39 with fail
        go_cut [185] from 178 to 185 (fun cv w' => cv = .bool (decide (s < m ∧ m < t)) ∧ w' = wo)
        case first =>
          by_cases d1 : s < m
          · have x1 : (s : Int) < (m : Int) := by omega
            by_cases d2 : m < t
            · have x2 : (m : Int) < (t : Int) := by omega
              have x3 : decide (s < m ∧ m < t) = true := decide_eq_true ⟨d1, d2⟩
              go_wp2
              go_meet
              exact ⟨by simp [d1, d2], rfl⟩
            · have x2 : ¬ (m : Int) < (t : Int) := by omega
              go_wp2
              go_meet
              exact ⟨by simp [d1, d2], rfl⟩
          · have x1 : ¬ (s : Int) < (m : Int) := by omega
            go_wp2
            go_meet
            exact ⟨by simp [d1], rfl⟩
        case rest =>
          obtain ⟨rfl, rfl⟩ := hcut
          go_upto_if 185 with fail
          go_cut [] from 181 to 191 (fun w' => ∃ e', SrtW M w0 blk off N e' w' ∧ Hid (PermIn a b d e') ∧ Hid (Halves K (ltC cf) a s mid t b e'))
          case first =>
            by_cases hd : s < m ∧ m < t
            · have cs := sym_rotate M blk off cap N s m t g cb d w0 wc R S1 hd.1 hd.2 (by omega) hN
              rw [decide_eq_true hd]
              clear hd S1
              go_wp2_with (go_at_call 70; refine cs.mono ?_; clear cs; rintro e w1 ⟨rfl, e', S2, hp, hk⟩)
              go_meet
              exact ⟨e', S2, permIn_mono _ _ _ _ _ _ k1 k4 (by rw [hds.out]; exact h3) hp, halves HL.out HR.out HX.out KO.out HST.out hk⟩
            · have hk : ∀ k, d[k]! = rotT d m (m - s) (t - m) k := fun k => by
                rcases (by omega : m - s = 0 ∨ t - m = 0) with e | e
                · rw [e, rot_none_left]
                · rw [e, rot_none_right]
              have HK := Lib.hid hk
              rw [decide_eq_false hd]
              clear hd hk
              go_wp2
              go_meet
              exact ⟨d, S1, permIn_refl _ _ _, halves HL.out HR.out HX.out KO.out HST.out HK.out⟩
          case rest =>
            obtain ⟨e', S2, HP, HV⟩ := hcut
            obtain ⟨wd, rfl⟩ : ∃ x, x = wc := ⟨_, rfl⟩
            clear S1
            go_upto_region 41 with fail
            go_cut [199] from 192 to 199 (fun cv w' => cv = .bool (decide (a < s ∧ s < mid)) ∧ w' = wd)
            case first =>
              by_cases d1 : a < s
              · have x1 : (a : Int) < (s : Int) := by omega
                by_cases d2 : s < mid
                · have x2 : (s : Int) < (mid : Int) := by omega
                  go_wp2
                  go_meet
                  exact ⟨by simp [d1, d2], rfl⟩
                · have x2 : ¬ (s : Int) < (mid : Int) := by omega
                  go_wp2
                  go_meet
                  exact ⟨by simp [d1, d2], rfl⟩
              · have x1 : ¬ (a : Int) < (s : Int) := by omega
                go_wp2
                go_meet
                exact ⟨by simp [d1], rfl⟩
            case rest =>
              obtain ⟨rfl, rfl⟩ := hcut
              go_upto_if 199 with fail
              go_cut [] from 195 to 205 (fun w' => ∃ e', SrtW M w0 blk off N e' w' ∧ Hid (PermIn a b d e') ∧ Hid (HalfR K (ltC cf) a mid t b e'))
              case first =>
                have hes := S2.size
                by_cases hd : a < s ∧ s < mid
                · have cs := HI.out a s mid e' wc (by omega) hd.1 hd.2 (by omega) S2 HV.out.l1 HV.out.l2 HV.out.lc
                  have HE := Lib.hid hes
                  rw [decide_eq_true hd]
                  clear hd S2 hes
                  go_wp2_with (go_at_call 67; refine cs.mono ?_; clear cs; rintro e w1 ⟨rfl, e2, S3, hp, hs⟩)
                  go_meet
                  exact ⟨e2, S3, permIn_trans _ _ _ _ _ HP.out (permIn_mono _ _ _ _ _ _ (Nat.le_refl _) (Nat.le_of_lt hmidb) (by rw [HE.out]; exact h3) hp), HV.out.mid (by rw [HE.out]; omega) hmidt hp hs⟩
                · have hh : HalfR K (ltC cf) a mid t b e' := HV.out.mid (by omega) hmidt (permIn_refl _ _ _) (HV.out.skipL k1 hsmid hd)
                  have HH := Lib.hid hh
                  rw [decide_eq_false hd]
                  clear hd hh hes
                  go_wp2
                  go_meet
                  exact ⟨e', S2, HP.out, HH.out⟩
              case rest =>
                obtain ⟨e2, S3, HP2, HV2⟩ := hcut
                obtain ⟨we, rfl⟩ : ∃ x, x = wc := ⟨_, rfl⟩
                clear S2 HP HV
                go_upto_region 43 with fail
                go_cut [213] from 206 to 213 (fun cv w' => cv = .bool (decide (mid < t ∧ t < b)) ∧ w' = we)
                case first =>
                  by_cases d1 : mid < t
                  · have x1 : (mid : Int) < (t : Int) := by omega
                    by_cases d2 : t < b
                    · have x2 : (t : Int) < (b : Int) := by omega
                      go_wp2
                      go_meet
                      exact ⟨by simp [d1, d2], rfl⟩
                    · have x2 : ¬ (t : Int) < (b : Int) := by omega
                      go_wp2
                      go_meet
                      exact ⟨by simp [d1, d2], rfl⟩
                  · have x1 : ¬ (mid : Int) < (t : Int) := by omega
                    go_wp2
                    go_meet
                    exact ⟨by simp [d1], rfl⟩
                case rest =>
                  obtain ⟨rfl, rfl⟩ := hcut
                  have hes := S3.size
                  by_cases hd : mid < t ∧ t < b
                  · have cs := HI.out mid t b e2 wc (by omega) hd.1 hd.2 h3 S3 HV2.out.r1 HV2.out.r2 HV2.out.rc
                    have HE := Lib.hid hes
                    rw [decide_eq_true hd]
                    clear hd S3 hes
                    go_wp2_with (go_at_call 67; refine cs.mono ?_; clear cs; rintro e w1 ⟨rfl, e3, S4, hp, hs⟩)
                    go_end0
                    exact ⟨rfl, e3, S4, permIn_trans _ _ _ _ _ HP2.out (permIn_mono _ _ _ _ _ _ (Nat.le_of_lt hamid) (Nat.le_refl _) (by rw [HE.out]; exact h3) hp), HV2.out.fin (by rw [HE.out]; exact h3) hp hs⟩
                  · have hh : Srt K a b e2 := HV2.out.fin (by omega) (permIn_refl _ _ _) (HV2.out.skipR hmidt k4 hd)
                    have HH := Lib.hid hh
                    rw [decide_eq_false hd]
                    clear hd hh hes
                    go_wp2
                    go_end0
                    exact ⟨rfl, e2, S3, HP2.out, HH.out⟩
theorem sym_merge (M blk off cap N g : Nat) (cb : Array Value) (cf : Fin (M + 1) → Fin (M + 1) → Int) (K : Fin (M + 1) → Nat) (w0 : World) (R : Row0 M w0 blk off N)
    (eg : ∀ args w, (callFunc g args).run Try.prog w = .ok (.enter g args) w) (HC : CmpF M g cb cf w0 blk off N) (hN : N ≤ 1000) : ∀ L, MrgC M blk off cap N g cb cf K w0 L
  | 0 => fun a m b d w h1 h2 h3 h4 S hl hr hc => absurd h1 (by omega)
  | L + 1 => fun a m b d w h1 h2 h3 h4 S hl hr hc => by
    by_cases c1 : m = a + 1
    · exact sym_merge_l M blk off cap N a m b g cb cf K d w0 w R S eg HC c1 h3 h4 hN hr hc
    · by_cases c2 : b = m + 1
      · exact sym_merge_r M blk off cap N a m b g cb cf K d w0 w R S eg HC (by omega) c2 h4 hN hl hc
      · exact sym_merge_step M blk off cap N a m b g L cb cf K d w0 w R S eg HC (sym_merge M blk off cap N g cb cf K w0 R eg HC hN L) (by omega) (by omega) h4 h1 hN hl hr hc
end Go.Proofs.Ytdidahafbcddeaa

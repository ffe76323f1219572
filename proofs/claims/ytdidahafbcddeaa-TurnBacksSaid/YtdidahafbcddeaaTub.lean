/-
  quipuref.Unturned walked.
-/
import Derived.Test.YtdidahafbcddeaaTua
import Derived.Deep.LoopGhost
set_option linter.unusedVariables false
namespace Go.Proofs.Ytdidahafbcddeaa
open Go.RowKit Go.Shelf Go.Sort

/-- what quipuref.Unturned answers, the place lying within the bytes -/
def UntP (w : World) (last : List Nat) (a n : Nat) (e : Ending) (w' : World) : Prop :=
  ∃ q : List Nat, q.length = n ∧ Byt q ∧ (∀ T, Byt T → TurnR T last a → q = T) ∧ Below w.heap.size w w' ∧
    ∃ A' c' R, e = .returned (.tuple #[.slice A' n c', .bool R]) ∧ Reads w' w'.heap.size A' n (vn .u8 q) ∧ (R = true ↔ TurnR q last a)
theorem turnR_exV (T : List Nat) : ∃ o p, TurnR T o p := by
  obtain ⟨r, hr⟩ := ord_ex T
  exact ⟨_, _, r, hr, rfl, rfl⟩
theorem Own.headT {w : World} {base n c : Nat} {E : TypeId} {A : Option Addr} {y k : Nat} {x : List Nat} (h : Own w base E (.slice A n c) ([Value.int .u8 (y : Int)] ++ vn .u8 x)) (hx : x.length = k) : n = k + 1 ∧ Reads w w.heap.size A (y :: x).length (vn .u8 (y :: x)) ∧ (y :: x).length ≤ c := by
  have h1 := h.len
  have h2 := h.capLe'
  have h3 := h.reads
  have e : n = k + 1 := by rw [← h1, List.length_append, List.length_map, hx]; simp; omega
  have e2 : (y :: x).length = n := by rw [e, List.length_cons, hx]
  rw [e2]
  exact ⟨e, h3, h2⟩
set_option maxRecDepth 100000 in
set_option maxHeartbeats 1600000 in
theorem ref_Unturned (A : Option Addr) (n c a : Nat) (last : List Nat) (w : World) (h : Reads w w.heap.size A n (vn .u8 last)) (hB : Byt last) (hn : n ≤ 64) (ha : a < n) :
    Calls Try.prog 22 #[.slice A n c, .int .i64 (a : Int)] w (UntP w last a n) := by
  have HT := Lib.hid h.nat_len
  have HB := Lib.hid hB
  have j1 : ((n : Int) == 0) = false := by rw [beq_eq_false_iff_ne]; omega
  have j2 : ¬ (n : Int) = 0 := by omega
  have j3 : ¬ (a : Int) < 0 := by omega
  have j4 : ¬ (n : Int) ≤ (a : Int) := by omega
  obtain ⟨ad, rfl, hadb, -⟩ := h.cells (by omega)
  have HH := Lib.hid h
  clear h hB
  go_enter Try.func22, Try.ntmps22
  go_wp2_with (at_make; refine mkN el_rowsT rfl _ _ rfl w.heap.size n rfl rfl rfl rfl (by omega) (by unfold maxLen; omega) (Nat.le_refl _) ?_; intro w2 ho2 hb2 hs2)
  have hot := OwnT.made ho2
  have HB2 := Lib.hid hb2
  obtain ⟨g, hg⟩ : ∃ g, w.heap.size = g := ⟨_, rfl⟩
  have HG := Lib.hid hg
  rw [hg] at hot ⊢
  have HOT := Lib.hid hot
  have ht0 : Hid (TabR last a 0 (List.replicate n [])) := by unfold Hid; have := tab_zero (last := last) (a := a); rwa [HT.out] at this
  have hr0 : Hid (RowsK n 0 (List.replicate n []).toArray) := ⟨by simp, fun i hi => by simp [hi, Byt]⟩
  clear hg hot ho2 hb2 hs2
  go_loopw [8] (fun kv wr => ∃ (k : Nat) (d : Array (List Nat)), k ≤ n ∧ kv = .int .i64 (k : Int) ∧ OwnT wr g g n d.toList ∧ Hid (RowsK n k d) ∧ Hid (TabR last a k d.toList) ∧ Below g w wr) (fun kv _ => n - (intOf kv).toNat)
  case atStart => exact ⟨0, _, Nat.zero_le _, rfl, HOT.out, hr0, ht0, by rw [← HG.out]; exact HB2.out⟩
  case round =>
    obtain ⟨k, d, hk, rfl, hot, hrk, htb, hbel⟩ := hrel
    obtain ⟨wk, rfl⟩ : ∃ x, x = wr := ⟨_, rfl⟩
    clear HOT HB2 hr0 ht0
    by_cases hlt : k < n
    · have i1 : (k : Int) < (n : Int) := by omega
      go_wp2
      go_loopw [9] (fun iv wr => ∃ i : Nat, i ≤ n ∧ iv = .int .i64 (i : Int) ∧ OwnT wr g g n (mixR last d n i).toList ∧ Below g w wr) (fun iv _ => n - (intOf iv).toNat)
      case atStart => exact ⟨0, Nat.zero_le _, rfl, by rw [mixR_zero hrk.out.1]; exact hot, hbel⟩
      case round =>
        obtain ⟨i, hi, rfl, hot, hbel⟩ := hrel
        obtain ⟨wo, rfl⟩ : ∃ x, x = wr := ⟨_, rfl⟩
        by_cases hlt2 : i < n
        · have i2 : (i : Int) < (n : Int) := by omega
          have i0 : (0 : Int) ≤ (i : Int) := by omega
          have hrow : (mixR last d n i).toList[i]? = some d[i]! := by
            have := mixR_at (last := last) (d := d) (n := n) (i := i) hlt2
            rw [if_neg (by omega)] at this
            have hsz : (mixR last d n i).size = n := by unfold mixR; simp
            rw [Array.getElem?_toList, Array.getElem?_eq_getElem (by omega), ← this, getElem!_pos _ i (by omega)]
          obtain ⟨Ai, ci, hcell, hrd, hci, hai⟩ := hot.row hrow
          have hlk := (hrk.out.2 i hlt2).1
          rw [hlk] at hcell hrd hci
          have hy : wo.cell? (ad.add i) = some (.int .u8 ((last.getD i 0 : Nat) : Int)) := by
            have hh := HH.out
            rw [HG.out] at hh
            obtain ⟨ad', e, _, hc⟩ := (hh.below hbel).cells (by omega)
            injection e with e; subst e
            refine hc i _ ?_
            rw [List.getElem?_map, List.getD_eq_getElem?_getD, List.getElem?_eq_getElem (by rw [HT.out]; exact hlt2)]; rfl
          have hgl := hot.lt.2
          have hadl : ad.block < wo.heap.size := by have := HG.out; omega
          have hnx := mixR_next (last := last) (d := d) hlt2
          generalize last.getD i 0 = y at *
          have hbA : Below wo.heap.size wo (wo.drew.alloc (.cells #[.int .u8 (y : Int)] 5)) := ((Below.refl _ wo).drew).alloc (Nat.le_refl _) _
          have hoA : Own (wo.drew.alloc (.cells #[.int .u8 (y : Int)] 5)) wo.heap.size 5 (.slice (some ⟨wo.heap.size, 0, none⟩) 1 1) [.int .u8 (y : Int)] := Own.built wo.drew #[.int .u8 (y : Int)] 1 rfl (by unfold maxLen; omega) (Nat.le_refl _)
          have hcell2 : (wo.alloc (.cells #[.int .u8 (y : Int)] 5)).cell? ⟨g, i, none⟩ = some (.slice Ai k ci) := (World.cell?_alloc_lt _ _ _ hgl).trans hcell
          have hy2 : (wo.alloc (.cells #[.int .u8 (y : Int)] 5)).cell? (ad.add i) = some (.int .u8 (y : Int)) := (World.cell?_alloc_lt _ _ _ (by rw [block_of_add]; exact hadl)).trans hy
          have HOA := Lib.hid hoA
          have HBA := Lib.hid hbA
          have HRD := Lib.hid hrd
          have HOT := Lib.hid hot
          have HBL := Lib.hid hbel
          have HAI := Lib.hid hai
          have HNX := Lib.hid hnx
          have HLK := Lib.hid hlk
          clear hoA hbA hrd hot hbel hai hrow hnx hlk
          go_wp2_with fail
          go_region_law (refine step_appG el_concat_bytes rfl (.tmp 45) (.tmp 49) (by rfl) (by first | rfl | (go_simp; done) | (go_simp; rfl)) HOA.out (by first | rfl | (go_simp; done) | (go_simp; rfl)) (HRD.out.below HBA.out) (one_vn _ _) (by unfold maxLen; simp; omega) (by simp; omega) HBA.out.size ?_; intro v3 w3 ho3 hg3 _
                         have hb3 := HBA.out.trans (grown_below hg3 HBA.out.size (fun q hq => (Own.lt HOA.out q hq).1))
                         have HB3 := Lib.hid hb3
                         have ot3 := HOT.out.below hb3
                         have hfr3 := ot3.free i
                         have hc3 := (hb3.cell (p := ⟨g, i, none⟩) hgl).trans hcell
                         obtain ⟨A3, c3, e3⟩ := ho3.form
                         rw [List.length_append, List.length_map, HLK.out, List.length_singleton] at e3
                         subst e3
                         have HOT3 := Lib.hid ot3
                         clear hg3 hb3 ot3)
          all_goals
            have hset : OwnT (w3.setCell ⟨g, i, none⟩ (.slice A3 (1 + k) c3)) g g n (mixR last d n (i + 1)).toList ∧ Below g w (w3.setCell ⟨g, i, none⟩ (.slice A3 (1 + k) c3)) := by
              obtain ⟨e1, e2, e3⟩ := ho3.headT HLK.out
              have e4 : (y :: d[i]!).length = 1 + k := by rw [List.length_cons, HLK.out]; omega
              have h1 := HOT3.out.set i (A := A3) (c := c3) (x := y :: d[i]!) e2 e3 (fun q hq => by
                have b1 := ho3.beyond q hq
                subst hq
                exact ⟨by omega, (Own.lt ho3 q.block rfl).2⟩)
              rw [e4, HNX.out] at h1
              exact ⟨h1, (HBL.out.trans (HB3.out.mono (Nat.le_of_lt hgl))).trans (HOT3.out.setBelow i _)⟩
            have HSET := Lib.hid hset
            clear ho3 hset hcell hcell2 hy hy2 hfr3 hc3
            go_wp2
            go_roundw
            case rel => exact ⟨i + 1, by omega, by go_num, by first | exact HSET.out.1 | exact HSET.out.1.drewN _ | exact HSET.out.1.below ((Below.refl _ _).drew), by first | exact HSET.out.2 | exact below_drewN HSET.out.2 _ | exact HSET.out.2.drew⟩
            case measure => simp [intOf] <;> omega
        · obtain rfl : i = n := by omega
          have i2 : ¬ (i : Int) < (i : Int) := by omega
          obtain ⟨hfl, hrz⟩ := mixR_full HT.out HB.out hrk.out
          have HRZ := Lib.hid hrz
          have hZ : Hid (∀ d', PermIn 0 i (mixR last d i i) d' → SortedIn ltV 0 i d' → RowsK i (k + 1) d' ∧ TabR last a (k + 1) d'.toList) := fun d' h1 h2 => round_tab HT.out HB.out hrk.out hlt htb.out h1 h2
          clear hfl hrz
          generalize mixR last d i i = Z at *
          go_wp2
          go_loopw [10] (fun iv wr => ∃ (p : Nat) (d' : Array (List Nat)), 1 ≤ p ∧ p ≤ i ∧ iv = .int .i64 (p : Int) ∧ OwnT wr g g i d'.toList ∧ Hid (PermIn 0 i Z d') ∧ Hid (SortedIn ltV 0 p d') ∧ Below g w wr) (fun iv _ => i - (intOf iv).toNat)
          case atStart => exact ⟨1, Z, Nat.le_refl _, by omega, rfl, hot, permIn_refl _ _ _, fun x y h1 h2 h3 => by omega, hbel⟩
          case round =>
            obtain ⟨p, d1, hp1, hpi, rfl, hot, hpm, hso, hbel⟩ := hrel
            obtain ⟨wp, rfl⟩ : ∃ x, x = wr := ⟨_, rfl⟩
            by_cases hlt3 : p < i
            · have i3 : (p : Int) < (i : Int) := by omega
              go_wp2
              go_loopw [11] (fun jv wr => ∃ (j : Nat) (d' : Array (List Nat)), j ≤ p ∧ jv = .int .i64 (j : Int) ∧ OwnT wr g g i d'.toList ∧ Hid (PermIn 0 i Z d') ∧ Hid (Ins ltV 0 j p d') ∧ Below g w wr) (fun jv _ => (intOf jv).toNat)
              case atStart => exact ⟨p, d1, Nat.le_refl _, rfl, hot, hpm, ⟨fun x y h1 h2 h3 h4 h5 => hso.out x y h1 h2 (by omega), fun q h1 h2 => by omega⟩, hbel⟩
              case round =>
                obtain ⟨j, d2, hjp, rfl, hot, hpm, hins, hbel⟩ := hrel
                obtain ⟨wq, rfl⟩ : ∃ x, x = wr := ⟨_, rfl⟩
                have hrk2 := HRZ.out.perm hpm.out
                rcases Nat.eq_zero_or_pos j with h0 | h0
                · subst h0
                  have hst := hins.out.stop swo_ltV (.inl (Nat.le_refl _))
                  have HST := Lib.hid hst
                  have z1 : decide ((0 : Int) < 0) = false := rfl
                  clear hst hins
                  go_wp2
                  go_quiet (fail)
                  go_wp2
                  go_roundw
                  case rel => exact ⟨p + 1, d2, by omega, by omega, by go_num, hot.drewN _, hpm, HST.out, below_drewN hbel _⟩
                  case measure => simp [intOf] <;> omega
                · obtain ⟨j1, rfl⟩ : ∃ x, j = x + 1 := ⟨j - 1, by omega⟩
                  have hstep := fun (hl : ltV d2[j1 + 1]! d2[j1]! = true) => hins.out.step hl (Nat.zero_le _) (by rw [hrk2.1]; omega)
                  have hstop := fun (hl : ltV d2[j1 + 1]! d2[j1]! = false) => hins.out.stop swo_ltV (.inr (by rw [Nat.add_sub_cancel]; exact hl))
                  obtain ⟨q, hq⟩ : ∃ q, j1 + 1 = q := ⟨_, rfl⟩
                  rw [hq] at hstep hstop hjp ⊢
                  obtain ⟨K, hK⟩ : ∃ K, k + 1 = K := ⟨_, rfl⟩
                  rw [hK] at hrk2
                  have e2 : (q : Int) - 1 = (j1 : Int) := by omega
                  have e3 : (0 : Int) < (q : Int) := by omega
                  have e4 : decide (0 < q) = true := decide_eq_true (by omega)
                  have e41 : 0 < q := by omega
                  have e5 : (q : Int) < (i : Int) := by omega
                  have e6 : (j1 : Int) < (i : Int) := by omega
                  have hqi : q < i := by omega
                  have hji : j1 < i := by omega
                  have hne : q ≠ j1 := by omega
                  have hKn : K ≤ 64 := by omega
                  obtain ⟨A1, c1, hc1, hr1, _, _⟩ := hot.row (hrk2.at_ hqi)
                  obtain ⟨A2, c2, hc2, hr2, _, _⟩ := hot.row (hrk2.at_ hji)
                  rw [(hrk2.2 q hqi).1] at hc1 hr1
                  rw [(hrk2.2 j1 hji).1] at hc2 hr2
                  have hah := ahB_nv (a := d2[q]!) (b := d2[j1]!) (by rw [(hrk2.2 q hqi).1, (hrk2.2 j1 hji).1]) (hrk2.2 q hqi).2 (hrk2.2 j1 hji).2
                  have ca := fun (R : Bool) (hR : Hid (ahB d2[q]! d2[j1]! = R)) (t : Nat) => ref_ahead A1 A2 K c1 c2 d2[q]! d2[j1]! R (wq.drewN t) (hr1.drewN t) (hr2.drewN t) (by omega) hR
                  have HQ := Lib.hid hq
                  have HOT := Lib.hid hot
                  have HBL := Lib.hid hbel
                  have HRK := Lib.hid hrk2
                  by_cases hlv : nv d2[q]! < nv d2[j1]!
                  · have CA := Lib.hid (ca true (by unfold Hid; rw [hah]; exact decide_eq_true hlv))
                    have HST := Lib.hid (hstep (decide_eq_true hlv))
                    clear ca hah hstep hstop hins hr1 hr2 hot hbel hlv hq hK hrk2
                    go_wp2
                    go_quiet ((go_at_call 42; first | exact quietQ (CA.out _) | exact quietQ2 (CA.out _)))
                    go_wp2_with fail
                    have hot2 := HOT.out.drewN nq
                    have hbl2 := below_drewN HBL.out nq
                    clear hc1 hc2 CA
                    generalize wq.drewN nq = wz at *
                    obtain ⟨A1, c1, hc1, hr1, hk1, ha1⟩ := hot2.row (HRK.out.at_ hqi)
                    obtain ⟨A2, c2, hc2, hr2, hk2, ha2⟩ := hot2.row (HRK.out.at_ hji)
                    rw [(HRK.out.2 q hqi).1] at hc1 hr1 hk1
                    rw [(HRK.out.2 j1 hji).1] at hc2 hr2 hk2
                    have f1 := hot2.free q
                    have f2 := hot2.free j1
                    have hsw := swap_rows hot2 HRK.out hqi hji hr1 hr2 hk1 hk2 ha1 ha2
                    have hbs := ((hbl2.setCell (p := ⟨g, q, none⟩) (Nat.le_refl _) (.slice A2 K c2)).setCell (p := ⟨g, j1, none⟩) (Nat.le_refl _) (.slice A1 K c1))
                    have HSW := Lib.hid hsw
                    have HBS := Lib.hid hbs
                    have HPM2 : Hid (PermIn 0 i Z (swp d2 q j1)) := permIn_trans _ _ _ _ _ hpm.out (swp_permIn _ _ _ _ _ (Nat.zero_le _) hqi (Nat.zero_le _) hji (by rw [HRK.out.1]; exact Nat.le_refl _))
                    clear hsw hbs hot2 hbl2 hr1 hr2 hk1 hk2 ha1 ha2
                    go_region
                    all_goals go_wp2
                    go_roundw
                    case rel => exact ⟨j1, swp d2 q j1, by omega, by go_num, by first | exact HSW.out | exact HSW.out.below ((Below.refl _ _).drew) | exact HSW.out.drewN _, HPM2.out, HST.out, by first | exact HBS.out | exact HBS.out.drew | exact below_drewN HBS.out _⟩
                    case measure => simp [intOf] <;> omega
                  · have CA := Lib.hid (ca false (by unfold Hid; rw [hah]; exact decide_eq_false hlv))
                    have HST := Lib.hid (hstop (decide_eq_false hlv))
                    clear ca hah hstep hstop hins hr1 hr2 hot hbel hlv hq hK hrk2
                    go_wp2
                    go_quiet ((go_at_call 42; first | exact quietQ (CA.out _) | exact quietQ2 (CA.out _)))
                    go_wp2
                    go_roundw
                    case rel => exact ⟨p + 1, d2, by omega, by omega, by go_num, HOT.out.drewN _, hpm, HST.out, below_drewN HBL.out _⟩
                    case measure => simp [intOf] <;> omega
            · obtain rfl : p = i := by omega
              have i3 : ¬ (p : Int) < (p : Int) := by omega
              obtain ⟨q1, q2⟩ := hZ.out d1 hpm.out hso.out
              have Q1 := Lib.hid q1
              have Q2 := Lib.hid q2
              clear q1 q2
              go_wp2
              go_roundw
              case rel => exact ⟨k + 1, d1, by omega, by go_num, hot, Q1.out, Q2.out, hbel⟩
              case measure => simp [intOf] <;> omega
    · obtain rfl : k = n := by omega
      have i1 : ¬ (k : Int) < (k : Int) := by omega
      obtain ⟨A1, c1, hc1, hr1, hk1, _⟩ := hot.row (hrk.out.at_ ha)
      rw [(hrk.out.2 a ha).1] at hc1 hr1 hk1
      have hby := (hrk.out.2 a ha).2
      have hql := (hrk.out.2 a ha).1
      have hback : ∀ T, Byt T → TurnR T last a → d[a]! = T := fun T hT ht => by
        have h1 : TabR last a last.length d.toList := by rw [HT.out]; exact htb.out
        have h2 := tab_end h1 hT ht (by rw [HT.out]; omega)
        rw [hrk.out.at_ ha] at h2
        injection h2
      have hgl := hot.lt.2
      have hhb := HH.out
      rw [HG.out] at hhb
      have hlr := hhb.below hbel
      have hbw : Below w.heap.size w wk := by rw [HG.out]; exact hbel
      have ha1 : (a : Int) < (k : Int) := by omega
      generalize d[a]! = Q at *
      obtain ⟨o, p0, ht⟩ := turnR_exV Q
      have ct : Calls Try.prog 19 #[.slice A1 k c1] wk (fun e w' => ∃ A' c', e = .returned (.tuple #[.slice A' k c', .int .i64 ((p0 : Nat) : Int)]) ∧ Reads w' w'.heap.size A' k (vn .u8 o) ∧ Below wk.heap.size wk w') := by
        refine (ref_Turned A1 k c1 Q wk hr1 hby hn hk1).mono ?_
        rintro e w6 ⟨A6, n6, c6, o6, a6, rfl, ht6, hr6, hb6⟩
        obtain ⟨e1, e2⟩ := ht.uniq ht6
        subst e1
        subst e2
        have hl := ht.len
        obtain rfl : k = n6 := by have := hr6.nat_len; omega
        exact ⟨A6, c6, rfl, hr6, hb6⟩
      have cb := fun (R : Bool) (hR : Hid (decide (o = last) = R)) (w6 : World) (A' : Option Addr) (c' : Nat) (hb : Below wk.heap.size wk w6) (hr : Reads w6 w6.heap.size A' k (vn .u8 o)) (t : Nat) =>
        ref_Bytes A' (some ad) k k c' c o last R (w6.drewN t) (hr.drewN t) ((hlr.below (hb.mono (Nat.le_of_lt hgl))).drewN t) (by unfold maxLen; omega) hR
      have HTR := Lib.hid ht
      have HR1 := Lib.hid hr1
      have HBY := Lib.hid hby
      have HQL := Lib.hid hql
      have HBK := Lib.hid hback
      have HBW := Lib.hid hbw
      clear ht hr1 hby hql hback hbw hot hrk htb hbel hlr hhb
      by_cases ho : o = last
      · have CB := Lib.hid (cb true (decide_eq_true ho))
        by_cases hp : p0 = a
        · have HR : Hid (TurnR Q last a) := by unfold Hid; rw [← ho, ← hp]; exact HTR.out
          have z1 : ((p0 : Int) == (a : Int)) = true := by rw [beq_iff_eq]; omega
          clear cb ho hp
          go_wp2_with (go_at_call 19; refine ct.mono ?_; clear ct; rintro e w6 ⟨A6, c6, rfl, hr6, hb6⟩
                       have hc6 := (hb6.cell (p := ⟨g, a, none⟩) hgl).trans hc1
                       have CC := Lib.hid (CB.out w6 A6 c6 hb6 hr6))
          go_quiet ((go_at_call 20; first | exact quietQ (CC.out _) | exact quietQ2 (CC.out _)))
          go_wp2
          go_ret2
          exact ⟨Q, HQL.out, HBY.out, HBK.out, below_drewN (HBW.out.trans (hb6.mono HBW.out.size)) _, A1, c1, true, rfl, ((HR1.out.below hb6).more hb6.size).drewN _, ⟨fun _ => HR.out, fun _ => rfl⟩⟩
        · have HR : Hid (¬ TurnR Q last a) := fun h => hp (HTR.out.uniq h).2
          have z1 : ((p0 : Int) == (a : Int)) = false := by rw [beq_eq_false_iff_ne]; omega
          clear cb ho hp
          go_wp2_with (go_at_call 19; refine ct.mono ?_; clear ct; rintro e w6 ⟨A6, c6, rfl, hr6, hb6⟩
                       have hc6 := (hb6.cell (p := ⟨g, a, none⟩) hgl).trans hc1
                       have CC := Lib.hid (CB.out w6 A6 c6 hb6 hr6))
          go_quiet ((go_at_call 20; first | exact quietQ (CC.out _) | exact quietQ2 (CC.out _)))
          go_wp2
          go_ret2
          exact ⟨Q, HQL.out, HBY.out, HBK.out, below_drewN (HBW.out.trans (hb6.mono HBW.out.size)) _, A1, c1, false, rfl, ((HR1.out.below hb6).more hb6.size).drewN _, ⟨fun h => (by cases h), fun h => absurd h HR.out⟩⟩
      · have CB := Lib.hid (cb false (decide_eq_false ho))
        have HR : Hid (¬ TurnR Q last a) := fun h => ho (HTR.out.uniq h).1
        clear cb ho
        go_wp2_with (go_at_call 19; refine ct.mono ?_; clear ct; rintro e w6 ⟨A6, c6, rfl, hr6, hb6⟩
                     have hc6 := (hb6.cell (p := ⟨g, a, none⟩) hgl).trans hc1
                     have CC := Lib.hid (CB.out w6 A6 c6 hb6 hr6))
        go_quiet ((go_at_call 20; first | exact quietQ (CC.out _) | exact quietQ2 (CC.out _)))
        go_wp2
        go_ret2
        exact ⟨Q, HQL.out, HBY.out, HBK.out, below_drewN (HBW.out.trans (hb6.mono HBW.out.size)) _, A1, c1, false, rfl, ((HR1.out.below hb6).more hb6.size).drewN _, ⟨fun h => (by cases h), fun h => absurd h HR.out⟩⟩
end Go.Proofs.Ytdidahafbcddeaa

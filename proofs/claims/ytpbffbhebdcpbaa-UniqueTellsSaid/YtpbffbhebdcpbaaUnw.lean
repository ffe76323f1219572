/-
  unique.Unique, unique.Twice, and the two laws.
-/
import Derived.Test.YtpbffbhebdcpbaaUng
import Derived.Test.YtpbffbhebdcpbaaUnr
import Derived.Test.YtpbffbhebdcpbaaInts
set_option linter.unusedVariables false
namespace Go.Proofs.Ytpbffbhebdcpbaa
open Go.RowKit

theorem unique_find (A : Option Addr) (n c : Nat) (C : List (List Bool)) (w : World) (h : Reads2c w w.heap.size A n C) (hz : codeErr C = 0) :
    Calls Try.prog 27 #[.slice A n c] w (FindP w C) := by
  obtain ⟨h8, h88⟩ := codeErr_ok hz
  have hl := h.plain.length
  have hn : n ≤ 8 := by omega
  by_cases hC : [] ∈ C
  · have hex : ∃ k, k < n ∧ (fun k => decide ((C.getD k []).length = 0)) k = true := by
      obtain ⟨j, hj, e⟩ := List.mem_iff_getElem.1 hC
      refine ⟨j, by omega, ?_⟩
      have e2 : C.getD j [] = [] := by rw [List.getD, List.getElem?_eq_getElem hj, e]; rfl
      show decide ((C.getD j []).length = 0) = true
      rw [e2]; rfl
    obtain ⟨k, ⟨hk, hp⟩, hmin⟩ := Go.exists_least hex
    have hidx := idxOf_hit (p := fun k => decide ((C.getD k []).length = 0)) (n := n) hk hp (fun j hj => by
      cases hq : decide ((C.getD j []).length = 0)
      · rfl
      · have := hmin j ⟨by omega, hq⟩; omega)
    refine unique_find_empty A n c k C w h hn hidx ?_
    have hkl : k < C.length := by omega
    have : C.getD k [] = [] := List.eq_nil_of_length_eq_zero (by simpa using hp)
    rw [List.getD, List.getElem?_eq_getElem hkl] at this
    rw [List.getElem?_eq_getElem hkl]
    exact congrArg some this
  · refine unique_find_main A n c C w h hn h88 hC (idxOf_none fun j hj => ?_)
    have hjl : j < C.length := by omega
    have e : C.getD j [] = C[j] := by rw [List.getD, List.getElem?_eq_getElem hjl]; rfl
    rw [e]
    simp only [decide_eq_false_iff_not]
    intro h0
    exact hC (by rw [← List.eq_nil_of_length_eq_zero h0]; exact List.getElem_mem hjl)
theorem find_yes (A : Option Addr) (n c : Nat) (C : List (List Bool)) (w : World) (h : Reads2c w w.heap.size A n C) (hz : codeErr C = 0) (hU : Unamb C) :
    Calls Try.prog 27 #[.slice A n c] w (fun e w' => ∃ A1 c1 A2 c2, e = .returned (.tuple #[.slice A1 0 c1, .slice A2 0 c2]) ∧ Below w.heap.size w w') := by
  refine (unique_find A n c C w h hz).mono ?_
  rintro e w' ⟨A1, n1, c1, A2, n2, c2, a, b, rfl, hF, _, _, ho1, ho2, hb⟩
  rcases hF with ⟨_, rfl, rfl⟩ | ⟨hn, _⟩
  · obtain rfl : 0 = n1 := ho1.len
    obtain rfl : 0 = n2 := ho2.len
    exact ⟨A1, c1, A2, c2, rfl, hb⟩
  · exact absurd hU hn
/-- two lists that are alike, in memory -/
def TwoP (w : World) (C : List (List Bool)) (A1 : Option Addr) (n1 c1 : Nat) (A2 : Option Addr) (n2 c2 : Nat) (a b : List Nat) (w' : World) : Prop :=
  0 < n1 ∧ n1 ≤ 1000 ∧ n2 ≤ 1000 ∧ Hid ((∀ i ∈ a, i < C.length) ∧ (∀ i ∈ b, i < C.length) ∧ wrN C a = wrN C b ∧ a ≠ b) ∧ Own w' w.heap.size 3 (.slice A1 n1 c1) (vn .i64 a) ∧ Own w' w.heap.size 3 (.slice A2 n2 c2) (vn .i64 b) ∧ Below w.heap.size w w'
theorem find_no (A : Option Addr) (n c : Nat) (C : List (List Bool)) (w : World) (h : Reads2c w w.heap.size A n C) (hz : codeErr C = 0) (hU : ¬ Unamb C) :
    Calls Try.prog 27 #[.slice A n c] w (fun e w' => ∃ A1 n1 c1 A2 n2 c2 a b, e = .returned (.tuple #[.slice A1 n1 c1, .slice A2 n2 c2]) ∧ TwoP w C A1 n1 c1 A2 n2 c2 a b w') := by
  refine (unique_find A n c C w h hz).mono ?_
  rintro e w' ⟨A1, n1, c1, A2, n2, c2, a, b, rfl, hF, ha, hb', ho1, ho2, hb⟩
  rcases hF with ⟨hy, _⟩ | ⟨_, h0, h1, h2, h3, h4⟩
  · exact absurd hy hU
  · have e1 : a.length = n1 := by have := ho1.len; rwa [List.length_map] at this
    have e2 : b.length = n2 := by have := ho2.len; rwa [List.length_map] at this
    exact ⟨A1, n1, c1, A2, n2, c2, a, b, rfl, by omega, by omega, by omega, ⟨h1, h2, h3, h4⟩, ho1, ho2, hb⟩
theorem unique_err (A : Option Addr) (n c : Nat) (ls : List (List Bool)) (z : Int) (w : World) (h : Reads2 w w.heap.size A n ls) (hn : n ≤ maxLen) (hz : Hid (codeErr ls = z)) (h0 : (z != 0) = true) :
    Calls Try.prog 10 #[.slice A n c] w (RetQ w (.tuple #[.bool false, .int .i64 z])) := by
  have c1 := prefix_Check A n c ls z w h hn hz
  go_enter Try.func10, Try.ntmps10
  go_wp2_with (go_at_call 26; refine c1.mono ?_; rintro e w' ⟨rfl, m1, rfl⟩)
  go_ret2
  exact ⟨rfl, m1, rfl⟩
set_option maxHeartbeats 800000 in
theorem unique_Unique (A : Option Addr) (n c : Nat) (C : List (List Bool)) (w : World) (h : Reads2c w w.heap.size A n C) (hn : n ≤ maxLen) (hz : Hid (codeErr C = 0)) :
    Calls Try.prog 10 #[.slice A n c] w (RetB w (.tuple #[.bool (uniB C), .int .i64 0])) := by
  have c1 := prefix_Check A n c C 0 w h.plain hn hz
  by_cases hU : Unamb C
  · have c2 := fun m => find_yes A n c C (w.drewN m) (h.drewN m) hz.out hU
    have HB := Lib.hid (uniB_true hU)
    clear hU
    rw [HB.out]
    go_enter Try.func10, Try.ntmps10
    go_wp2_with (first | (go_at_call 26; refine c1.mono ?_; clear c1; rintro e w' ⟨rfl, m1, rfl⟩) | (go_at_call 27; refine (c2 _).mono ?_; clear c2; rintro e w1 ⟨A1, k1, A2, k2, rfl, hb1⟩))
    go_ret2
    exact ⟨rfl, (below_drewN (Below.refl _ w) m1).trans hb1⟩
  · have c2 := fun m => find_no A n c C (w.drewN m) (h.drewN m) hz.out hU
    have HB := Lib.hid (uniB_false hU)
    clear hU
    rw [HB.out]
    go_enter Try.func10, Try.ntmps10
    go_wp2_with (first | (go_at_call 26; refine c1.mono ?_; clear c1; rintro e w' ⟨rfl, m1, rfl⟩) | (go_at_call 27; refine (c2 _).mono ?_; clear c2; rintro e w1 ⟨A1, n1, k1, A2, n2, k2, a, b, rfl, h1, h2, h3, _, _, _, hb1⟩; have hne : ((n1 : Int) + (n2 : Int) == 0) = false := (by simp; omega); have hle : (n1 : Int) + (n2 : Int) ≤ 2000 := (by omega); have h0 : (0 : Int) ≤ (n1 : Int) + (n2 : Int) := (by omega)))
    go_ret2
    exact ⟨rfl, (below_drewN (Below.refl _ w) m1).trans hb1⟩
theorem twice_err (A : Option Addr) (n c : Nat) (ls : List (List Bool)) (z : Int) (w : World) (h : Reads2 w w.heap.size A n ls) (hn : n ≤ maxLen) (hz : Hid (codeErr ls = z)) (h0 : (z != 0) = true) :
    Calls Try.prog 13 #[.slice A n c] w (RetB w (.tuple #[.slice none 0 0, .slice none 0 0, .int .i64 z])) := by
  have c1 := prefix_Check A n c ls z w h hn hz
  go_enter Try.func13, Try.ntmps13
  go_wp2_with (go_at_call 26; refine c1.mono ?_; rintro e w' ⟨rfl, m1, rfl⟩)
  go_ret3
  exact ⟨rfl, below_drewN (Below.refl _ w) m1⟩
set_option maxHeartbeats 800000 in
theorem twice_yes (A : Option Addr) (n c : Nat) (C : List (List Bool)) (w : World) (h : Reads2c w w.heap.size A n C) (hn : n ≤ maxLen) (hz : Hid (codeErr C = 0)) (hU : Unamb C) :
    Calls Try.prog 13 #[.slice A n c] w (RetB w (.tuple #[.slice none 0 0, .slice none 0 0, .int .i64 5])) := by
  have c1 := prefix_Check A n c C 0 w h.plain hn hz
  have c2 := fun m => find_yes A n c C (w.drewN m) (h.drewN m) hz.out hU
  clear hU
  go_enter Try.func13, Try.ntmps13
  go_wp2_with (first | (go_at_call 26; refine c1.mono ?_; clear c1; rintro e w' ⟨rfl, m1, rfl⟩) | (go_at_call 27; refine (c2 _).mono ?_; clear c2; rintro e w1 ⟨A1, k1, A2, k2, rfl, hb1⟩))
  go_ret3
  exact ⟨rfl, (below_drewN (Below.refl _ w) m1).trans hb1⟩
set_option maxHeartbeats 800000 in
theorem twice_no (A : Option Addr) (n c : Nat) (C : List (List Bool)) (w : World) (h : Reads2c w w.heap.size A n C) (hn : n ≤ maxLen) (hz : Hid (codeErr C = 0)) (hU : ¬ Unamb C) :
    Calls Try.prog 13 #[.slice A n c] w (fun e w' => ∃ A1 n1 c1 A2 n2 c2 a b, e = .returned (.tuple #[.slice A1 n1 c1, .slice A2 n2 c2, .int .i64 0]) ∧ TwoP w C A1 n1 c1 A2 n2 c2 a b w') := by
  have c1 := prefix_Check A n c C 0 w h.plain hn hz
  have c2 := fun m => find_no A n c C (w.drewN m) (h.drewN m) hz.out hU
  clear hU
  go_enter Try.func13, Try.ntmps13
  go_wp2_with (first | (go_at_call 26; refine c1.mono ?_; clear c1; rintro e w' ⟨rfl, m1, rfl⟩) | (go_at_call 27; refine (c2 _).mono ?_; clear c2; rintro e w1 ⟨A1, n1, k1, A2, n2, k2, a, b, rfl, h1, h2, h3, h4, h5, h6, hb1⟩; have hne : ((n1 : Int) + (n2 : Int) == 0) = false := (by simp; omega); have hle : (n1 : Int) + (n2 : Int) ≤ 2000 := (by omega); have h0 : (0 : Int) ≤ (n1 : Int) + (n2 : Int) := (by omega)))
  go_ret3
  exact ⟨A1, n1, k1, A2, n2, k2, a, b, rfl, h1, h2, h3, h4, h5, h6, (below_drewN (Below.refl _ w) m1).trans hb1⟩
set_option maxHeartbeats 800000 in
theorem UniqueTells_walk (A : Option Addr) (n c : Nat) (ls : List (List Bool)) (w : World) (h : Reads2c w w.heap.size A n ls) (hn : n * 24 ≤ reachBytes) (_ : n ≤ c) :
    Calls Try.prog 4 #[.slice A n c] w (LawTrue w) := by
  have hn' : n ≤ maxLen := by have := reachBytes_lt; unfold maxLen; omega
  clear hn
  by_cases h0 : codeErr ls = 0
  · have c1 := unique_Unique A n c ls w h hn' h0
    have c2 := fun w1 (hb : Below w.heap.size w w1) => ref_CodeCheck A n c ls 0 w1 ((h.plain.below hb).more hb.size) hn' h0
    have hc := codeErr_ok h0
    have c3 := fun w1 (hb : Below w.heap.size w w1) => ref_Unique A n c ls w1 ((h.below hb).more hb.size) (by have := h.plain.length; omega) hc.2
    clear h0 hc
    generalize uniB ls = b at *
    have C3 := Lib.hid c3
    have C2 := Lib.hid c2
    clear c2 c3 h
    cases b
    all_goals
      go_enter Try.func4, Try.ntmps4
      go_wp2_with (first | (go_at_call 10; refine c1.mono ?_; clear c1; rintro e w1 ⟨rfl, hb1⟩; have c2 := C2.out w1 hb1; have c3 := C3.out w1 hb1) | (go_at_call 11; refine c2.mono ?_; clear c2; rintro e w' ⟨rfl, rfl⟩) | (go_at_call 12; refine c3.mono ?_; clear c3; rintro e w2 ⟨rfl, hb2⟩))
      go_ret
      exact ⟨rfl, hb1.trans (hb2.mono hb1.size)⟩
  · have hz : (codeErr ls != 0) = true := by simpa using h0
    have c1 := unique_err A n c ls (codeErr ls) w h.plain hn' rfl hz
    have c2 := fun m => ref_CodeCheck A n c ls (codeErr ls) (w.drewN m) (h.plain.drewN m) hn' rfl
    clear h0
    generalize codeErr ls = z at *
    go_enter Try.func4, Try.ntmps4
    go_wp2_with (first | (go_at_call 10; refine c1.mono ?_; rintro e w1 ⟨rfl, m1, rfl⟩) | (go_at_call 11; refine (c2 _).mono ?_; rintro e w' ⟨rfl, rfl⟩))
    go_ret
    exact .drewN _ _
theorem vi_vnU (l : List Nat) : vi .i64 (l.map (fun x : Nat => (x : Int))) = vn .i64 l := by unfold vi vn; rw [List.map_map]; rfl
set_option maxHeartbeats 2000000 in
theorem UniqueTwice_walk (A : Option Addr) (n c : Nat) (ls : List (List Bool)) (w : World) (h : Reads2c w w.heap.size A n ls) (hn : n * 24 ≤ reachBytes) (_ : n ≤ c) :
    Calls Try.prog 5 #[.slice A n c] w (LawTrue w) := by
  have hn' : n ≤ maxLen := by have := reachBytes_lt; unfold maxLen; omega
  clear hn
  by_cases h0 : codeErr ls = 0
  · have C2 := Lib.hid fun w1 (hb : Below w.heap.size w w1) => ref_CodeCheck A n c ls 0 w1 ((h.plain.below hb).more hb.size) hn' h0
    have hc := codeErr_ok h0
    have C3 := Lib.hid fun w1 (hb : Below w.heap.size w w1) => ref_Unique A n c ls w1 ((h.below hb).more hb.size) (by have := h.plain.length; omega) hc.2
    by_cases hU : Unamb ls
    · have c1 := twice_yes A n c ls w h hn' h0 hU
      rw [uniB_true hU] at C3
      clear hU h0 hc h
      go_enter Try.func5, Try.ntmps5
      go_wp2_with (first | (go_at_call 13; refine c1.mono ?_; clear c1; rintro e w1 ⟨rfl, hb1⟩; have c2 := C2.out w1 hb1; have c3 := C3.out w1 hb1) | (go_at_call 11; refine c2.mono ?_; clear c2; rintro e w' ⟨rfl, rfl⟩) | (go_at_call 12; refine c3.mono ?_; clear c3; rintro e w2 ⟨rfl, hb2⟩))
      go_ret
      exact ⟨rfl, hb1.trans (hb2.mono hb1.size)⟩
    · have c1 := twice_no A n c ls w h hn' h0 hU
      rw [uniB_false hU] at C3
      have HL := Lib.hid h.plain.length
      have H := Lib.hid h
      have H0 := Lib.hid h0
      have h8 := hc.1
      have H88 := Lib.hid hc.2
      clear hU h0 hc h
      have hn8 : n ≤ 8 := by rw [← HL.out]; exact h8
      clear h8
      go_enter Try.func5, Try.ntmps5
      go_wp2_with (first | (go_at_call 13; refine c1.mono ?_; clear c1; rintro e w1 ⟨A1, n1, k1, A2, n2, k2, a, b, rfl, g1, g2, g3, g4, g5, g6, hb1⟩; have c2 := C2.out w1 hb1; have c3 := C3.out w1 hb1) | (go_at_call 11; refine c2.mono ?_; clear c2; rintro e w' ⟨rfl, rfl⟩) | (go_at_call 12; refine c3.mono ?_; clear c3; rintro e w2 ⟨rfl, hb2⟩))
      have hbw2 := hb1.trans (hb2.mono hb1.size)
      have hbl := hbw2.alloc hbw2.size (.cells #[.slice A1 n1 k1, .slice A2 n2 k2] 35)
      have hbox := BoxV.new w2 [.slice A1 n1 k1, .slice A2 n2 k2] 35
      have hr1 := (g5.below hb2 (Nat.le_refl _)).alloc (.cells #[.slice A1 n1 k1, .slice A2 n2 k2] 35)
      have hr2 := (g6.below hb2 (Nat.le_refl _)).alloc (.cells #[.slice A1 n1 k1, .slice A2 n2 k2] 35)
      have b0 := hbox.cell (j := 0) rfl
      have b1 := hbox.cell (j := 1) rfl
      have hcell : ∀ t, t < 2 → ∃ Al nl cl ll, (w2.alloc (.cells #[.slice A1 n1 k1, .slice A2 n2 k2] 35)).cell? ((⟨w2.heap.size, 0, none⟩ : Addr).add t) = some (.slice Al nl cl) ∧ Reads (w2.alloc (.cells #[.slice A1 n1 k1, .slice A2 n2 k2] 35)) (w2.alloc (.cells #[.slice A1 n1 k1, .slice A2 n2 k2] 35)).heap.size Al nl (vn .i64 ll) ∧ (∀ i ∈ ll, i < n) ∧ nl ≤ 1000 := fun t ht => by
        rcases (show t = 0 ∨ t = 1 by omega) with rfl | rfl
        · exact ⟨A1, n1, k1, a, b0, hr1.reads, by rw [← HL.out]; exact g4.out.1, g2⟩
        · exact ⟨A2, n2, k2, b, b1, hr2.reads, by rw [← HL.out]; exact g4.out.2.1, g3⟩
      have HCELL := Lib.hid hcell
      have HR1 := Lib.hid hr1
      have HR2 := Lib.hid hr2
      clear hcell hr1 hr2 b0 b1 hbox g5 g6 hb1 hb2 hbw2
      generalize w2.alloc (.cells #[.slice A1 n1 k1, .slice A2 n2 k2] 35) = wl at *
      generalize (⟨w2.heap.size, 0, none⟩ : Addr) = adl at *
      go_loopw [44, 8, 10] (fun tv _ _ wr => ∃ t : Nat, t ≤ 2 ∧ tv = .int .i64 t ∧ wr = wl) (fun tv _ _ _ => 2 - (intOf tv).toNat)
      case atStart => exact ⟨0, by omega, rfl, rfl⟩
      case round =>
        obtain ⟨t, ht, rfl, hwr⟩ := hrel
        obtain rfl : wl = wr := hwr.symm
        by_cases hlt : t < 2
        · obtain ⟨Al, nl, cl, ll, hcl, hrl, hll, hnl⟩ := HCELL.out t hlt
          have t0 : (0 : Int) ≤ (t : Int) := by omega
          have t1 : (t : Int) < 2 := by omega
          have HLL := Lib.hid hll
          have HRL := Lib.hid hrl
          clear hll hrl
          go_wp2
          go_loopw [50, 10] (fun jv _ wi => ∃ j : Nat, j ≤ nl ∧ jv = .int .i64 j ∧ wi = wl) (fun jv _ _ => nl - (intOf jv).toNat)
          case atStart => exact ⟨0, by omega, rfl, rfl⟩
          case round =>
            obtain ⟨j, hj, rfl, hwi⟩ := hrel
            obtain rfl : wl = wr := hwi.symm
            by_cases hltj : j < nl
            · obtain ⟨ad, x, e, _, hx, hcx⟩ := HRL.out.nat_at hltj
              subst e
              have hxn := HLL.out x (mem_at hx)
              have j0 : (0 : Int) ≤ (j : Int) := by omega
              have j1 : (j : Int) < (nl : Int) := by omega
              have x0 : ¬ (x : Int) < 0 := by omega
              have x1 : ¬ (n : Int) ≤ (x : Int) := by omega
              clear hx
              go_wp2
              go_roundw
              case rel => exact ⟨j + 1, by omega, by go_num, by trivial⟩
              case measure => simp [intOf] <;> omega
            · have j1 : ¬ (j : Int) < (nl : Int) := by omega
              go_wp2
              go_roundw
              case rel => exact ⟨t + 1, by omega, by go_num, by trivial⟩
              case measure => simp [intOf] <;> omega
        · have t1 : ¬ (t : Int) < 2 := by omega
          have hsz : w.heap.size ≤ wl.heap.size := hbl.size
          have r1 := HR1.out.reads
          have r2 := HR2.out.reads
          have cI := ref_Ints A1 A2 n1 n2 k1 k2 (a.map (fun x : Nat => (x : Int))) (b.map (fun x : Nat => (x : Int))) false wl (by rw [vi_vnU]; exact r1) (by rw [vi_vnU]; exact r2) (by unfold maxLen; omega) (by
            unfold Hid
            rw [decide_eq_false_iff_not]
            intro e
            have hinj : ∀ x y : Nat, (x : Int) = (y : Int) → x = y := fun x y h => by omega
            exact g4.out.2.2.2 (List.map_inj_right (f := fun x : Nat => (x : Int)) hinj |>.1 e))
          have hidx : ∀ ll : List Nat, (∀ i ∈ ll, i < ls.length) → ∀ s ∈ ll.map (fun x : Nat => (x : Int)), 0 ≤ s ∧ s < (n : Int) := fun ll h s hs => by
            obtain ⟨i, hi, rfl⟩ := List.mem_map.1 hs
            have := h i hi
            rw [HL.out] at this
            omega
          have cW1 := fun q => ref_Written A A1 n c n1 k1 ls (a.map (fun x : Nat => (x : Int))) (wl.drewN q) (((H.out.plain.below hbl).more hsz).drewN q) (by rw [vi_vnU]; exact r1.drewN q) H0.out (by omega) (hidx a g4.out.1)
          have cW2 := fun w5 (hb : Below wl.heap.size wl w5) => ref_Written A A2 n c n2 k2 ls (b.map (fun x : Nat => (x : Int))) w5 ((H.out.plain.below (hbl.trans (hb.mono hsz))).more (hbl.trans (hb.mono hsz)).size) (by rw [vi_vnU]; exact (r2.below hb).more hb.size) H0.out (by omega) (hidx b g4.out.2.1)
          have HWL : Hid ((wrN ls a).length ≤ 8000) := by
            have := wrL_len H88.out (a.map (fun x : Nat => (x : Int)))
            rw [List.length_map] at this
            have h1 : a.length = n1 := r1.nat_len
            unfold Hid wrN; omega
          have HWE : Hid (wrN ls a = wrN ls b) := g4.out.2.2.1
          have CW2 := Lib.hid cW2
          have HBL := Lib.hid hbl
          clear hidx cW2 r1 r2 g4 hbl HR1 HR2 HCELL
          go_wp2_with (first
            | (go_at_call 14; refine cI.mono ?_; clear cI; rintro e w3 ⟨rfl, m3, rfl⟩)
            | (go_at_call 15; refine (cW1 _).mono ?_; clear cW1; rintro e w5 ⟨A5, n5, c5, rfl, ho5, hb5⟩; have hB5 : Below wl.heap.size wl w5 := (below_drewN (Below.refl _ wl) _).trans hb5; have cW2 := CW2.out w5 hB5)
            | (go_at_call 15; refine cW2.mono ?_; clear cW2; rintro e w6 ⟨A6, n6, c6, rfl, ho6, hb6⟩; have h56 := (ho5.below hb6 (Nat.le_refl _)).reads; have hB6 := hB5.trans (hb6.mono hB5.size); have cB := ref_Bools A5 A6 n5 n6 c5 c6 (wrN ls a) (wrN ls b) true w6 h56 ho6.reads (by have := h56.bool_len; have h8 := HWL.out; unfold wrN at h8; unfold maxLen; omega) (by rw [HWE.out]; simp [Hid]))
            | (go_at_call 9; refine cB.mono ?_; clear cB; rintro e w7 ⟨rfl, m7, rfl⟩))
          go_ret
          exact ⟨rfl, below_drewN (HBL.out.trans (hB6.mono hsz)) _⟩
  · have hz : (codeErr ls != 0) = true := by simpa using h0
    have hz2 : (codeErr ls == 0) = false := by simpa using h0
    have c1 := twice_err A n c ls (codeErr ls) w h.plain hn' rfl hz
    have C2 := Lib.hid fun w1 (hb : Below w.heap.size w w1) => ref_CodeCheck A n c ls (codeErr ls) w1 ((h.plain.below hb).more hb.size) hn' rfl
    clear h0 h
    generalize codeErr ls = z at *
    go_enter Try.func5, Try.ntmps5
    go_wp2_with (first | (go_at_call 13; refine c1.mono ?_; clear c1; rintro e w1 ⟨rfl, hb1⟩; have c2 := C2.out w1 hb1) | (go_at_call 11; refine c2.mono ?_; clear c2; rintro e w' ⟨rfl, rfl⟩))
    go_ret
    exact ⟨rfl, hb1⟩
end Go.Proofs.Ytpbffbhebdcpbaa

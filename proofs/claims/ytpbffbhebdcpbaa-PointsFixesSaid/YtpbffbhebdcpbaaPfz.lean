/-
  The law: both find the one polynomial that fits enough of the numbers, or none.
-/
import Derived.Test.YtpbffbhebdcpbaaPff
import Derived.Test.YtpbffbhebdcpbaaPfr
import Derived.Test.YtpbffbhebdcpbaaInts
set_option linter.unusedVariables false
namespace Go.Proofs.Ytpbffbhebdcpbaa
open Go.RowKit

theorem vi_vnZ (l : List Nat) : vi .i64 (l.map (fun x : Nat => (x : Int))) = vn .i64 l := by unfold vi vn; rw [List.map_map]; rfl
theorem ints_sameZ (A1 A2 : Option Addr) (n1 n2 c1 c2 : Nat) (d : List Nat) (w : World) {B B' : Nat} (h1 : Reads w B A1 n1 (vn .i64 d)) (h2 : Reads w B' A2 n2 (vn .i64 d)) (hn : n1 ≤ maxLen) :
    Calls Try.prog 14 #[.slice A1 n1 c1, .slice A2 n2 c2] w (RetQ w (.bool true)) :=
  ref_Ints A1 A2 n1 n2 c1 c2 (d.map (fun x : Nat => (x : Int))) (d.map (fun x : Nat => (x : Int))) true w (by rw [vi_vnZ]; exact h1) (by rw [vi_vnZ]; exact h2) hn (by simp [Hid])
theorem FixY.len {l : List Int} {n k : Nat} {d : List Nat} (hn : n ≤ 9) (hl : ∀ j, j < n → 0 ≤ l.getD j 0 ∧ l.getD j 0 < 16) (h : FixY l n k d) : d.length = k := by
  obtain ⟨P, hP, rfl, _⟩ := h
  exact (both_same hP hn hl).2.2
set_option maxHeartbeats 800000 in
theorem PointsFixes_err (k z y : Int) (A : Option Addr) (n c : Nat) (l : List Int) (w : World) (h : Reads w w.heap.size A n (vi .i64 l)) (hn : n ≤ maxLen) (hy : Hid (wrongZ k n = y)) (hz : Hid ((if y = 0 then fldErr l else y) = z)) (h0 : z ≠ 0) :
    Calls Try.prog 6 #[.int .i64 k, .slice A n c] w (LawTrue w) := by
  have cC := fun W => ref_PointsCheck k y A n c W hn hy
  have b1 : (z != 0) = true := by simpa using h0
  by_cases hy0 : y = 0
  · subst hy0
    have hz := hz.out
    rw [if_pos rfl] at hz
    have cF := points_Fix_field k z A n c l w h hn hy hz h0
    have cK := fun w1 (hb : Below w.heap.size w w1) => ref_FieldCheck A n c l z w1 (h.below hb) hn hz
    have CK := Lib.hid cK
    clear h hy hz cK
    go_enter Try.func6, Try.ntmps6
    go_wp2_with (first | (go_at_call 16; refine cF.mono ?_; clear cF; rintro e w1 ⟨rfl, hb1⟩; have cK := CK.out w1 hb1) | (go_at_call 17; refine (cC _).mono ?_; rintro e w2 ⟨rfl, rfl⟩) | (go_at_call 18; refine cK.mono ?_; clear cK; rintro e w2 ⟨rfl, rfl⟩))
    go_ret
    exact ⟨rfl, hb1⟩
  · have hz := hz.out
    rw [if_neg hy0] at hz
    subst hz
    have b2 : (y == 0) = false := by simpa using hy0
    have cF := points_Fix_wrong k y A n c w hn hy h0
    clear h hy hy0
    go_enter Try.func6, Try.ntmps6
    go_wp2_with (first | (go_at_call 16; refine cF.mono ?_; clear cF; rintro e w1 ⟨rfl, hb1⟩) | (go_at_call 17; refine (cC _).mono ?_; rintro e w2 ⟨rfl, rfl⟩))
    go_ret
    exact ⟨rfl, hb1⟩
set_option maxHeartbeats 800000 in
theorem PointsFixes_good (k : Nat) (A : Option Addr) (n c : Nat) (l : List Int) (w : World) (h : Reads w w.heap.size A n (vi .i64 l)) (hn : n ≤ 9) (hk1 : 1 ≤ k) (hkn : k ≤ n) (hl : ∀ j, j < n → 0 ≤ l.getD j 0 ∧ l.getD j 0 < 16) (hfe : fldErr l = 0) :
    Calls Try.prog 6 #[.int .i64 (k : Int), .slice A n c] w (LawTrue w) := by
  have cF := points_Fix k A n c l w h hn hk1 hkn hl hfe
  have cC := fun W => ref_PointsCheck (k : Int) 0 A n c W (by unfold maxLen; omega) (by unfold Hid wrongZ; rw [if_neg (by omega), if_neg (by omega)])
  have CK := Lib.hid fun w1 (hb : Below w.heap.size w w1) => ref_FieldCheck A n c l 0 w1 (h.below hb) (by unfold maxLen; omega) hfe
  have CR := Lib.hid fun w1 (hb : Below w.heap.size w w1) => ref_Fixed k A n c l w1 ((h.below hb).more hb.size) hn hk1 hkn hl
  have HU := Lib.hid fun d e (h1 : FixY l n k d) (h2 : FixY l n k e) => FixY.uniq hn hkn hl h1 h2
  have HLN := Lib.hid fun d (h1 : FixY l n k d) => FixY.len hn hl h1
  clear h hfe hl
  go_enter Try.func6, Try.ntmps6
  go_wp2_with (go_at_call 16; refine cF.mono ?_; clear cF; rintro e w1 (⟨A1, n1, c1, d, rfl, hY, ho1, hb1⟩ | ⟨rfl, hN, hb1⟩))
  · have cK := CK.out w1 hb1
    have cR := CR.out w1 hb1
    have HY := Lib.hid hY
    clear hY
    go_wp2_with (first | (go_at_call 17; refine (cC _).mono ?_; rintro e w2 ⟨rfl, rfl⟩) | (go_at_call 18; refine cK.mono ?_; clear cK; rintro e w2 ⟨rfl, rfl⟩) | (go_at_call 19; refine cR.mono ?_; clear cR; rintro e w2 (⟨A2, n2, c2, d2, rfl, hY2, ho2, hb2⟩ | ⟨rfl, hN2, hb2⟩)))
    · have hdd := HU.out _ _ HY.out hY2
      subst hdd
      have hl1 := HLN.out _ HY.out
      have hn1 : n1 = k := by have := ho1.reads.nat_len; omega
      have cI := ints_sameZ A1 A2 n1 n2 c1 c2 d w2 (ho1.below hb2 (Nat.le_refl _)).reads ho2.reads (by unfold maxLen; omega)
      clear hY2 hl1
      go_wp2_with (go_at_call 14; refine cI.mono ?_; clear cI; rintro e w3 ⟨rfl, m3, rfl⟩)
      go_ret
      exact ⟨rfl, below_drewN (hb1.trans (hb2.mono hb1.size)) m3⟩
    · exact absurd (FixN.no hN2 HY.out) id
  · have cK := CK.out w1 hb1
    have cR := CR.out w1 hb1
    have HN := Lib.hid hN
    clear hN
    go_wp2_with (first | (go_at_call 17; refine (cC _).mono ?_; rintro e w2 ⟨rfl, rfl⟩) | (go_at_call 18; refine cK.mono ?_; clear cK; rintro e w2 ⟨rfl, rfl⟩) | (go_at_call 19; refine cR.mono ?_; clear cR; rintro e w2 (⟨A2, n2, c2, d2, rfl, hY2, ho2, hb2⟩ | ⟨rfl, hN2, hb2⟩)))
    · exact absurd (FixN.no HN.out hY2) id
    · clear hN2
      go_wp2
      go_ret
      exact ⟨rfl, hb1.trans (hb2.mono hb1.size)⟩
theorem PointsFixes_walk (k : Int) (A : Option Addr) (n c : Nat) (l : List Int) (w : World) (_ : (Lit.int .i64 k).wf = true) (h : Reads w w.heap.size A n (vi .i64 l)) (_ : ∀ z ∈ l, (Lit.int .i64 z).wf = true) (hm : n * 8 ≤ reachBytes) :
    Calls Try.prog 6 #[.int .i64 k, .slice A n c] w (LawTrue w) := by
  have hn : n ≤ maxLen := by have := reachBytes_lt; unfold maxLen; omega
  by_cases h0 : (if wrongZ k n = 0 then fldErr l else wrongZ k n) = (0 : Int)
  · have hw : wrongZ k n = 0 := by
      by_cases e : wrongZ k n = 0
      · exact e
      · rw [if_neg e] at h0; exact absurd h0 e
    rw [if_pos hw] at h0
    unfold wrongZ at hw
    by_cases h1 : 9 < n
    · rw [if_pos h1] at hw; omega
    · rw [if_neg h1] at hw
      by_cases h2 : k < 1 ∨ (n : Int) < k
      · rw [if_pos h2] at hw; omega
      · obtain ⟨m, rfl⟩ : ∃ m : Nat, k = m := ⟨k.toNat, by omega⟩
        refine PointsFixes_good m A n c l w h (by omega) (by omega) (by omega) (fun j hj => ?_) h0
        have hj2 : j < l.length := by rw [h.int_len]; exact hj
        have := fldErr_ok h0 l[j] (List.getElem_mem hj2)
        rw [List.getD_eq_getElem?_getD, List.getElem?_eq_getElem hj2]
        simp only [Option.getD_some]
        omega
  · exact PointsFixes_err k _ _ A n c l w h hn rfl rfl h0
end Go.Proofs.Ytpbffbhebdcpbaa

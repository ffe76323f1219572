/-
  quipuref.Boses and bose.Fix.
-/
import Derived.Test.YthbmnaonnebnhaaBose
set_option linter.unusedVariables false
namespace Go.Proofs.Ythbmnaonnebnhaa
open Go.RowKit

theorem seven_digits_all : ∀ a b c d e f g : Bool, digitsL (64 * bN a + 32 * bN b + 16 * bN c + 8 * bN d + 4 * bN e + 2 * bN f + bN g) 7 = [a, b, c, d, e, f, g] := by decide +kernel
theorem seven_digits {d : List Bool} (h : d.length = 7) : ∃ x, x < 128 ∧ digitsL x 7 = d := by
  obtain ⟨a, b, c, d', e, f, g, rfl⟩ := seven h
  have h1 := bN_le a
  have h2 := bN_le b
  have h3 := bN_le c
  have h4 := bN_le d'
  have h5 := bN_le e
  have h6 := bN_le f
  have h7 := bN_le g
  exact ⟨_, by omega, seven_digits_all a b c d' e f g⟩
/-- returned a slice that reads as l, and a number -/
def RetLN (w : World) (l : List Bool) (z : Int) (e : Ending) (w' : World) : Prop :=
  ∃ A n c, e = .returned (.tuple #[.slice A n c, .int .i64 z]) ∧ Reads w' w'.heap.size A n (vb l) ∧ Below w.heap.size w w'
theorem dif_le (a b : List Bool) (h : a.length = b.length) : difL a b ≤ a.length := by
  have := onesL_le (xorL a b)
  unfold difL
  rw [xorL_len h] at this
  exact this
set_option maxRecDepth 100000 in
set_option maxHeartbeats 800000 in
theorem ref_Boses (A : Option Addr) (c : Nat) (l d : List Bool) (w : World) (h : Reads w w.heap.size A 15 (vb l)) (hd : Hid (d.length = 7)) (hn : Hid (difL (boseL d) l ≤ 2)) :
    Calls Try.prog 24 #[.slice A 15 c] w (RetLN w d (difL (boseL d) l : Int)) := by
  have H := Lib.hid h.bool_len
  obtain ⟨x0, hx0, hdx⟩ := seven_digits hd.out
  have HDX := Lib.hid hdx
  clear hdx
  go_enter Try.func24, Try.ntmps24
  go_wp2
  go_loopw [4] (fun i wr => ∃ x : Nat, x ≤ x0 ∧ i = .int .i64 x ∧ Below w.heap.size w wr) (fun i _ => 128 - (intOf i).toNat)
  case atStart => exact ⟨0, by omega, rfl, Below.refl _ _⟩
  case round =>
    obtain ⟨x, hx, rfl, hbel⟩ := hrel
    have i1 : (x : Int) < 128 := by omega
    have c1 : ∀ W, Calls Try.prog 46 #[.int .i64 (x : Int), .int .i64 7] W (RetS W 4 (vb (digitsL x 7))) := fun W => ref_Digits x 7 W (by omega) (by omega)
    have hl7 : Hid ((digitsL x 7).length = 7) := digitsL_len x 7
    have hl15 : Hid ((boseL (digitsL x 7)).length = 15) := boseL_len hl7.out
    have c2 := fun (A2 : Option Addr) (k2 : Nat) (W : World) (hr : Reads W W.heap.size A2 7 (vb (digitsL x 7))) => ref_Bose A2 k2 (digitsL x 7) W hr
    have hq15 : difL (boseL (digitsL x 7)) l ≤ 15 := by have := dif_le (boseL (digitsL x 7)) l (by rw [hl15.out, H.out]); rw [hl15.out] at this; exact this
    obtain ⟨q, hq⟩ : ∃ q, difL (boseL (digitsL x 7)) l = q := ⟨_, rfl⟩
    rw [hq] at hq15
    have HQ := Lib.hid hq
    have HB : Hid (putL 465 8 (digitsL x 7) 7 = boseL (digitsL x 7)) := rfl
    clear hq
    by_cases hx2 : q ≤ 2
    · have HX : Hid (digitsL x 7 = d) := near_same H.out hl7.out hd.out (by rw [HQ.out]; exact hx2) hn.out
      have j2 : (q : Int) ≤ 2 := by omega
      go_wp2_with (first
        | (go_at_call 46; refine (c1 _).mono ?_; clear c1; rintro e w1 ⟨A1, n1, k1, rfl, ho1, hb1⟩; obtain rfl : n1 = 7 := (by have := ho1.reads.bool_len; rw [hl7.out] at this; exact this.symm); have c2 := c2 A1 k1 w1 ho1.reads)
        | (go_at_call 48; refine c2.mono ?_; clear c2; rintro e w2 ⟨A2, n2, k2, rfl, ho2, hb2⟩; rw [HB.out] at ho2; obtain rfl : n2 = 15 := (by have := ho2.reads.bool_len; rw [hl15.out] at this; exact this.symm); have hb12 := hb1.trans (hb2.mono hb1.size); have hbw := hbel.trans (hb12.mono hbel.size); have c3 := ref_Differ A2 A 15 k2 c (boseL (digitsL x 7)) l q w2 ho2.reads (h.below hbw) (by omega) HQ)
        | (go_at_call 47; refine c3.mono ?_; clear c3; rintro e w3 ⟨rfl, m3, rfl⟩))
      go_ret2
      refine ⟨A1, 7, k1, ?_, ?_, below_drewN hbw m3⟩
      · rw [← HX.out, HQ.out]; rfl
      · rw [← HX.out]
        exact ((ho1.below hb2 (Nat.le_refl _)).drewN m3).reads
    · have j2 : ¬ (q : Int) ≤ 2 := by omega
      have hne : x < x0 := by
        rcases Nat.lt_or_ge x x0 with h1 | h1
        · exact h1
        · obtain rfl : x = x0 := by omega
          have := hn.out
          rw [← HDX.out, HQ.out] at this
          omega
      go_wp2_with (first
        | (go_at_call 46; refine (c1 _).mono ?_; clear c1; rintro e w1 ⟨A1, n1, k1, rfl, ho1, hb1⟩; obtain rfl : n1 = 7 := (by have := ho1.reads.bool_len; rw [hl7.out] at this; exact this.symm); have c2 := c2 A1 k1 w1 ho1.reads)
        | (go_at_call 48; refine c2.mono ?_; clear c2; rintro e w2 ⟨A2, n2, k2, rfl, ho2, hb2⟩; rw [HB.out] at ho2; obtain rfl : n2 = 15 := (by have := ho2.reads.bool_len; rw [hl15.out] at this; exact this.symm); have hb12 := hb1.trans (hb2.mono hb1.size); have hbw := hbel.trans (hb12.mono hbel.size); have c3 := ref_Differ A2 A 15 k2 c (boseL (digitsL x 7)) l q w2 ho2.reads (h.below hbw) (by omega) HQ)
        | (go_at_call 47; refine c3.mono ?_; clear c3; rintro e w3 ⟨rfl, m3, rfl⟩))
      go_roundw
      case rel => exact ⟨x + 1, by omega, by go_num, below_drewN hbw m3⟩
      case measure => simp [intOf]; omega
set_option maxRecDepth 100000 in
set_option maxHeartbeats 800000 in
theorem ref_Boses_none (A : Option Addr) (c : Nat) (l : List Bool) (w : World) (h : Reads w w.heap.size A 15 (vb l)) (hno : Hid (∀ x, x < 128 → ¬ difL (boseL (digitsL x 7)) l ≤ 2)) :
    Calls Try.prog 24 #[.slice A 15 c] w (RetLN w [] (-1)) := by
  have H := Lib.hid h.bool_len
  go_enter Try.func24, Try.ntmps24
  go_wp2
  go_loopw [4] (fun i wr => ∃ x : Nat, x ≤ 128 ∧ i = .int .i64 x ∧ Below w.heap.size w wr) (fun i _ => 128 - (intOf i).toNat)
  case atStart => exact ⟨0, by omega, rfl, Below.refl _ _⟩
  case round =>
    obtain ⟨x, hx, rfl, hbel⟩ := hrel
    by_cases hlt : x < 128
    · have i1 : (x : Int) < 128 := by omega
      have c1 : ∀ W, Calls Try.prog 46 #[.int .i64 (x : Int), .int .i64 7] W (RetS W 4 (vb (digitsL x 7))) := fun W => ref_Digits x 7 W (by omega) (by omega)
      have hl7 : Hid ((digitsL x 7).length = 7) := digitsL_len x 7
      have hl15 : Hid ((boseL (digitsL x 7)).length = 15) := boseL_len hl7.out
      have c2 := fun (A2 : Option Addr) (k2 : Nat) (W : World) (hr : Reads W W.heap.size A2 7 (vb (digitsL x 7))) => ref_Bose A2 k2 (digitsL x 7) W hr
      have hq15 : difL (boseL (digitsL x 7)) l ≤ 15 := by have := dif_le (boseL (digitsL x 7)) l (by rw [hl15.out, H.out]); rw [hl15.out] at this; exact this
      have hx2 := hno.out x hlt
      obtain ⟨q, hq⟩ : ∃ q, difL (boseL (digitsL x 7)) l = q := ⟨_, rfl⟩
      rw [hq] at hq15 hx2
      have HQ := Lib.hid hq
      have HB : Hid (putL 465 8 (digitsL x 7) 7 = boseL (digitsL x 7)) := rfl
      have j2 : ¬ (q : Int) ≤ 2 := by omega
      clear hq
      go_wp2_with (first
        | (go_at_call 46; refine (c1 _).mono ?_; clear c1; rintro e w1 ⟨A1, n1, k1, rfl, ho1, hb1⟩; obtain rfl : n1 = 7 := (by have := ho1.reads.bool_len; rw [hl7.out] at this; exact this.symm); have c2 := c2 A1 k1 w1 ho1.reads)
        | (go_at_call 48; refine c2.mono ?_; clear c2; rintro e w2 ⟨A2, n2, k2, rfl, ho2, hb2⟩; rw [HB.out] at ho2; obtain rfl : n2 = 15 := (by have := ho2.reads.bool_len; rw [hl15.out] at this; exact this.symm); have hb12 := hb1.trans (hb2.mono hb1.size); have hbw := hbel.trans (hb12.mono hbel.size); have c3 := ref_Differ A2 A 15 k2 c (boseL (digitsL x 7)) l q w2 ho2.reads (h.below hbw) (by omega) HQ)
        | (go_at_call 47; refine c3.mono ?_; clear c3; rintro e w3 ⟨rfl, m3, rfl⟩))
      go_roundw
      case rel => exact ⟨x + 1, by omega, by go_num, below_drewN hbw m3⟩
      case measure => simp [intOf]; omega
    · have i1 : ¬ (x : Int) < 128 := by omega
      go_wp2
      go_ret2
      exact ⟨none, 0, 0, rfl, Reads.none_, hbel⟩
end Go.Proofs.Ythbmnaonnebnhaa

/-
  stripe.Lose, stripe.Renew.
-/
import Derived.Test.YtbhhijdpmpcdnaaArw
import Derived.Lib.SliceRun
set_option linter.unusedVariables false
namespace Go.Proofs.Ytbhhijdpmpcdnaa
open Go.RowKit

def zeroTo (f : Nat → Nat → Nat) (i o n : Nat) : Nat → Nat → Nat := fun a b => if a = i ∧ o ≤ b ∧ b < o + n then 0 else f a b
theorem zeroTo_step (f : Nat → Nat → Nat) (i o n : Nat) : zeroTo (setD f i o 0) i (o + 1) n = zeroTo f i o (n + 1) := by
  funext a b
  unfold zeroTo setD
  by_cases h1 : a = i
  · by_cases h2 : b = o
    · rw [if_neg (by omega), if_pos ⟨h1, h2⟩, if_pos (by omega)]
    · by_cases h3 : o + 1 ≤ b ∧ b < o + 1 + n
      · rw [if_pos ⟨h1, h3⟩, if_pos (by omega)]
      · rw [if_neg (by omega), if_neg (by omega), if_neg (by omega)]
  · rw [if_neg (by omega), if_neg (by omega), if_neg (by omega)]
theorem zeroTo_none (f : Nat → Nat → Nat) (i o : Nat) : zeroTo f i o 0 = f := by
  funext a b
  unfold zeroTo
  rw [if_neg (by omega)]
theorem TabD.clear {b0 hb r d k i : Nat} {gr : Nat → Nat} {V : Value} (hk : i < k) (hkd : k ≤ d) : ∀ (n o : Nat) (w : World) (f : Nat → Nat → Nat), TabD w b0 hb r d k gr V f → o + n ≤ r → TabD (w.setCells (gr i) o (List.replicate n (.int .u8 0))) b0 hb r d k gr V (zeroTo f i o n) ∧ OnlyIn w (w.setCells (gr i) o (List.replicate n (.int .u8 0))) d gr
  | 0, o, w, f, h, _ => by
    rw [zeroTo_none]
    exact ⟨h, OnlyIn.refl _ _ _⟩
  | n + 1, o, w, f, h, hr => by
    have h1 := h.put (i := i) (j := o) 0 (by omega) hk
    have h2 := TabD.clear hk hkd n (o + 1) _ _ h1 (by omega)
    rw [zeroTo_step] at h2
    exact ⟨h2.1, (OnlyIn.set w (Nat.lt_of_lt_of_le hk hkd) o _).trans h2.2⟩
/-- the box's second cell is set -/
theorem TabD.relost {w : World} {b0 hb r d k : Nat} {gr : Nat → Nat} {V : Value} {f : Nat → Nat → Nat} (h : TabD w b0 hb r d k gr V f) (U : Value) : TabD (w.setCell ⟨hb, 1, none⟩ U) b0 hb r d k gr U f := by
  have hord := h.ord
  refine ⟨?_, h.col.setOther _ _ (by simp [Value.ownBlock]; omega), fun i hi => (h.row i hi).setOther _ _ (by have := h.ge hi; simp [Value.ownBlock]; omega), h.ord, h.inj⟩
  simp [World.setCell, Array.getElem?_modify, h.box]
/-- only the box and the discs' blocks have changed -/
structure OnlyB (w w' : World) (hb d : Nat) (gr : Nat → Nat) : Prop where
  os : w'.os = w.os
  tape : w'.tape = w.tape
  output : w'.output = w.output
  size : w.heap.size ≤ w'.heap.size
  block : ∀ b, b < w.heap.size → b ≠ hb → (∀ i, i < d → gr i ≠ b) → w'.heap[b]? = w.heap[b]?
theorem OnlyIn.toB {w w' : World} {d hb : Nat} {gr : Nat → Nat} (h : OnlyIn w w' d gr) : OnlyB w w' hb d gr := ⟨h.os, h.tape, h.output, h.size, fun b h1 _ h3 => h.block b h1 h3⟩
theorem OnlyB.refl (w : World) (hb d : Nat) (gr : Nat → Nat) : OnlyB w w hb d gr := ⟨rfl, rfl, rfl, Nat.le_refl _, fun _ _ _ _ => rfl⟩
theorem OnlyB.trans {w w' w'' : World} {hb d : Nat} {gr : Nat → Nat} (h : OnlyB w w' hb d gr) (h' : OnlyB w' w'' hb d gr) : OnlyB w w'' hb d gr :=
  ⟨h'.os.trans h.os, h'.tape.trans h.tape, h'.output.trans h.output, Nat.le_trans h.size h'.size, fun b hb1 h2 hn => (h'.block b (Nat.lt_of_lt_of_le hb1 h.size) h2 hn).trans (h.block b hb1 h2 hn)⟩
theorem OnlyB.box (w : World) (hb d : Nat) (gr : Nat → Nat) (j : Nat) (v : Value) : OnlyB w (w.setCell ⟨hb, j, none⟩ v) hb d gr :=
  ⟨rfl, rfl, rfl, by simp, fun b _ h2 _ => Below.heap_setCell _ _ _ b (fun e => h2 (by rw [e]))⟩
/-- what losing a disc does -/
def LoseP (w : World) (b0 hb r d : Nat) (gr : Nat → Nat) (z : Int) (f : Nat → Nat → Nat) (disc : Nat) (e : Ending) (w' : World) : Prop :=
  if 0 ≤ z then e = .returned (.int .i64 7) ∧ w' = w
  else e = .returned (.int .i64 0) ∧ TabD w' b0 hb r d d gr (.int .i64 (disc : Int)) (zeroTo f disc 0 r) ∧ OnlyB w w' hb d gr
set_option maxHeartbeats 1600000 in
theorem stripe_Lose (b0 hb r d disc : Nat) (z : Int) (gr : Nat → Nat) (f : Nat → Nat → Nat) (w : World) (h : TabD w b0 hb r d d gr (.int .i64 z) f) (h6 : d ≤ 6) (hdisc : disc < d) (hr : 0 < r) :
    Calls Try.prog 30 #[.pointer (some ⟨hb, 0, none⟩), .int .i64 (disc : Int)] w (LoseP w b0 hb r d gr z f disc) := by
  have c1 := h.lost
  have f1 : w.frozen? ⟨hb, 1, none⟩ = false := by simp [World.frozen?, h.box]
  have HT := Lib.hid h
  by_cases hz : 0 ≤ z
  · have HP : ∀ e w', LoseP w b0 hb r d gr z f disc e w' = (e = .returned (.int .i64 7) ∧ w' = w) := fun e w' => by unfold LoseP; rw [if_pos hz]
    clear h
    go_enter Try.func30, Try.ntmps30
    go_wp2
    go_ret
    rw [HP]
    exact ⟨rfl, rfl⟩
  · have HP : ∀ e w', LoseP w b0 hb r d gr z f disc e w' = (e = .returned (.int .i64 0) ∧ TabD w' b0 hb r d d gr (.int .i64 (disc : Int)) (zeroTo f disc 0 r) ∧ OnlyB w w' hb d gr) := fun e w' => by unfold LoseP; rw [if_neg hz]
    have h2 := h.relost (.int .i64 (disc : Int))
    have c0 := h2.tab
    have c2 := h2.rowAt (i := disc) hdisc hdisc
    have hcl := TabD.clear hdisc (Nat.le_refl d) r 0 _ _ h2 (by omega)
    have hrun := fun ty => Lib.run_clear_slice (P := Try.prog) (w.setCell ⟨hb, 1, none⟩ (.int .i64 (disc : Int))) 33 5 ty (.int .u8 0) Try.underlying33 (Try.zeroValue5) rfl rfl (gr disc) 0 r r hr (fun j hj => by rw [Nat.zero_add, h2.cellAt hj hdisc]; rfl) (fun j hj => by rw [Nat.zero_add]; exact h2.free j hdisc)
    have HCL := Lib.hid hcl
    have HBX := Lib.hid (OnlyB.box w hb d gr 1 (.int .i64 (disc : Int)))
    have z2 : (0 : Int) ≤ (disc : Int) := by omega
    have z3 : (disc : Int) < (d : Int) := by omega
    clear h h2 hcl
    go_enter Try.func30, Try.ntmps30
    go_wp2
    go_ret
    rw [HP]
    exact ⟨rfl, HCL.out.1, HBX.out.trans HCL.out.2.toB⟩
def renewTo (f : Nat → Nat → Nat) (disc d k : Nat) : Nat → Nat → Nat := fun a b => if a = disc ∧ b < k then xorTo f disc b d else f a b
theorem xorTo_renew (f : Nat → Nat → Nat) (disc d k row : Nat) : ∀ n, xorTo (renewTo f disc d k) disc row n = xorTo f disc row n
  | 0 => rfl
  | n + 1 => by
    rw [xorTo, xorTo, xorTo_renew f disc d k row n]
    by_cases e : n = disc
    · rw [if_pos e, if_pos e]
    · rw [if_neg e, if_neg e]
      congr 1
      unfold renewTo
      rw [if_neg (by omega)]
theorem renewTo_zero (f : Nat → Nat → Nat) (disc d : Nat) : renewTo f disc d 0 = f := by
  funext a b
  unfold renewTo
  rw [if_neg (by omega)]
theorem renewTo_next (f : Nat → Nat → Nat) (disc d k : Nat) : setD (renewTo f disc d k) disc k (xorTo f disc k d) = renewTo f disc d (k + 1) := by
  funext a b
  unfold setD renewTo
  by_cases h1 : a = disc
  · by_cases h2 : b = k
    · rw [if_pos ⟨h1, h2⟩, if_pos (by omega), h2]
    · rw [if_neg (by omega)]
      by_cases h3 : b < k
      · rw [if_pos ⟨h1, h3⟩, if_pos (by omega)]
      · rw [if_neg (by omega), if_neg (by omega)]
  · rw [if_neg (by omega), if_neg (by omega), if_neg (by omega)]
theorem renewTo_lt {f : Nat → Nat → Nat} (hf : ∀ a b, f a b < 256) (disc d k : Nat) : ∀ a b, renewTo f disc d k a b < 256 := by
  intro a b
  unfold renewTo
  split
  · exact xorTo_lt hf d
  · exact hf a b
def RenewP (w : World) (b0 hb r d : Nat) (gr : Nat → Nat) (z : Int) (f : Nat → Nat → Nat) (disc : Nat) (e : Ending) (w' : World) : Prop :=
  if (disc : Int) = z then e = .returned (.int .i64 0) ∧ TabD w' b0 hb r d d gr (.int .i64 (-1)) (renewTo f disc d r) ∧ OnlyB w w' hb d gr
  else e = .returned (.int .i64 7) ∧ w' = w
set_option maxRecDepth 100000 in
set_option maxHeartbeats 1600000 in
theorem stripe_Renew (b0 hb r d disc : Nat) (z : Int) (gr : Nat → Nat) (f : Nat → Nat → Nat) (w : World) (h : TabD w b0 hb r d d gr (.int .i64 z) f) (hf : Hid (∀ a b, f a b < 256)) (h6 : d ≤ 6) (hdisc : disc < d) (hr : r ≤ 12) :
    Calls Try.prog 31 #[.pointer (some ⟨hb, 0, none⟩), .int .i64 (disc : Int)] w (RenewP w b0 hb r d gr z f disc) := by
  have c1 := h.lost
  by_cases hz : (disc : Int) = z
  · have HP : ∀ e w', RenewP w b0 hb r d gr z f disc e w' = (e = .returned (.int .i64 0) ∧ TabD w' b0 hb r d d gr (.int .i64 (-1)) (renewTo f disc d r) ∧ OnlyB w w' hb d gr) := fun e w' => by unfold RenewP; rw [if_pos hz]
    have t0 : (z != (disc : Int)) = false := by simp [hz]
    have c0 := h.tab
    have c2 := h.rowAt (i := disc) hdisc hdisc
    have HT := Lib.hid h
    have HP := Lib.hid HP
    have z2 : (0 : Int) ≤ (disc : Int) := by omega
    have z3 : (disc : Int) < (d : Int) := by omega
    clear h hz
    go_enter Try.func31, Try.ntmps31
    go_wp2
    go_loopw [20] (fun iv wr => ∃ k : Nat, k ≤ r ∧ iv = .int .i64 (k : Int) ∧ TabD wr b0 hb r d d gr (.int .i64 z) (renewTo f disc d k) ∧ OnlyIn w wr d gr) (fun iv _ => r - (intOf iv).toNat)
    case atStart => exact ⟨0, Nat.zero_le _, rfl, by rw [renewTo_zero]; exact HT.out, OnlyIn.refl _ _ _⟩
    case round =>
      obtain ⟨k, hk, rfl, htab, honly⟩ := hrel
      obtain ⟨wo, rfl⟩ : ∃ x, x = wr := ⟨_, rfl⟩
      clear c0 c1 c2
      by_cases hlt : k < r
      · have c0 := htab.tab
        have c2 := htab.rowAt (i := disc) hdisc hdisc
        have c3 := htab.cellAt (i := disc) (j := k) hlt hdisc
        have c4 := htab.free (i := disc) k hdisc
        have co := stripe_others b0 hb r d disc k gr (.int .i64 z) _ wo.drew htab.drew (renewTo_lt hf.out disc d k) h6 hdisc hlt
        rw [xorTo_renew] at co
        have hput := htab.put (i := disc) (j := k) (xorTo f disc k d) hlt hdisc
        rw [renewTo_next] at hput
        have HPUT := Lib.hid hput
        have HO := Lib.hid (honly.trans (OnlyIn.set wo hdisc k (.int .u8 ((xorTo f disc k d : Nat) : Int))))
        generalize xorTo f disc k d = y at *
        have i0 : (0 : Int) ≤ (k : Int) := by omega
        have i1 : (k : Int) < (r : Int) := by omega
        clear htab hput honly
        go_wp2
        go_still_tail 13, (by kernel_rfl)
        still_call (show Calls Try.prog 35 _ wo.drew (fun e w'' => e = Ending.returned (.int .u8 (y : Int)) ∧ w'' = wo.drew) from co.mono fun e w3 hh => by obtain ⟨h1, h2⟩ := hh; exact ⟨by first | exact h1 | exact h2, by first | exact h2 | exact h2.symm | exact h1⟩)
        repeat still_step
        refine wpStill_nil ?_
        go_wp2
        go_roundw
        case rel => exact ⟨k + 1, by omega, by go_num, HPUT.out.drew, HO.out.drew⟩
        case measure => simp [intOf] <;> omega
      · obtain rfl : r = k := by omega
        have c1 := htab.lost
        have f1 : wo.frozen? ⟨hb, 1, none⟩ = false := by simp [World.frozen?, htab.box]
        have HN := Lib.hid (htab.relost (.int .i64 (-1)))
        have HO := Lib.hid (honly.toB.trans (OnlyB.box wo hb d gr 1 (.int .i64 (-1))))
        clear htab honly
        go_wp2
        go_ret
        rw [HP.out]
        exact ⟨rfl, HN.out, HO.out⟩
  · have HP : ∀ e w', RenewP w b0 hb r d gr z f disc e w' = (e = .returned (.int .i64 7) ∧ w' = w) := fun e w' => by unfold RenewP; rw [if_neg hz]
    have t0 : (z != (disc : Int)) = true := by simpa using fun e => hz e.symm
    clear h hz
    go_enter Try.func31, Try.ntmps31
    go_wp2
    go_ret
    rw [HP]
    exact ⟨rfl, rfl⟩
end Go.Proofs.Ytbhhijdpmpcdnaa

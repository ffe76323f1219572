/-
  ship.one, (*ship.Line).Do, (*ship.Line).Told.
-/
import Derived.Test.YtbhhijdpmpcdnaaProg
import Derived.Test.YtbhhijdpmpcdnaaStructs
import Derived.Test.YtbhhijdpmpcdnaaQuiet
import Derived.BigQuiet
import Derived.Deep.QuietTactic
import Derived.StillTailTactics
set_option linter.unusedVariables false
namespace Go.Proofs.Ytbhhijdpmpcdnaa
open Go.RowKit

/-- block b begins with a line: its mode, the slice of its writes, how many were sent, have come, were put, are known; behind it X -/
def LineB (w : World) (b : Nat) (V : Value) (mode s g p k : Nat) (T : TypeId) (X : List Value) : Prop := w.heap[b]? = some (.cells (Value.int .i64 (mode : Int) :: V :: Value.int .i64 (s : Int) :: Value.int .i64 (g : Int) :: Value.int .i64 (p : Int) :: Value.int .i64 (k : Int) :: X).toArray T (0, 0))
section
variable {w w' : World} {b mode s g p k : Nat} {V : Value} {T : TypeId} {X : List Value}
theorem LineB.c0 (h : LineB w b V mode s g p k T X) : w.cell? ⟨b, 0, none⟩ = some (.int .i64 (mode : Int)) := by simp [World.cell?, show w.heap[b]? = _ from h]
theorem LineB.c1 (h : LineB w b V mode s g p k T X) : w.cell? ⟨b, 1, none⟩ = some V := by simp [World.cell?, show w.heap[b]? = _ from h]
theorem LineB.c2 (h : LineB w b V mode s g p k T X) : w.cell? ⟨b, 2, none⟩ = some (.int .i64 (s : Int)) := by simp [World.cell?, show w.heap[b]? = _ from h]
theorem LineB.c3 (h : LineB w b V mode s g p k T X) : w.cell? ⟨b, 3, none⟩ = some (.int .i64 (g : Int)) := by simp [World.cell?, show w.heap[b]? = _ from h]
theorem LineB.c4 (h : LineB w b V mode s g p k T X) : w.cell? ⟨b, 4, none⟩ = some (.int .i64 (p : Int)) := by simp [World.cell?, show w.heap[b]? = _ from h]
theorem LineB.c5 (h : LineB w b V mode s g p k T X) : w.cell? ⟨b, 5, none⟩ = some (.int .i64 (k : Int)) := by simp [World.cell?, show w.heap[b]? = _ from h]
theorem LineB.free (h : LineB w b V mode s g p k T X) (j : Nat) : w.frozen? ⟨b, j, none⟩ = false := by simp [World.frozen?, show w.heap[b]? = _ from h]
theorem LineB.lt (h : LineB w b V mode s g p k T X) : b < w.heap.size := (Array.getElem?_eq_some_iff.1 h).1
theorem LineB.keep (h : LineB w b V mode s g p k T X) (e : w'.heap[b]? = w.heap[b]?) : LineB w' b V mode s g p k T X := e.trans h
theorem LineB.set1 (h : LineB w b V mode s g p k T X) (U : Value) : LineB (w.setCell ⟨b, 1, none⟩ U) b U mode s g p k T X := by
  simp [LineB, World.setCell, Array.getElem?_modify, show w.heap[b]? = _ from h]
theorem LineB.set2 (h : LineB w b V mode s g p k T X) (x : Nat) : LineB (w.setCell ⟨b, 2, none⟩ (.int .i64 (x : Int))) b V mode x g p k T X := by
  simp [LineB, World.setCell, Array.getElem?_modify, show w.heap[b]? = _ from h]
theorem LineB.set3 (h : LineB w b V mode s g p k T X) (x : Nat) : LineB (w.setCell ⟨b, 3, none⟩ (.int .i64 (x : Int))) b V mode s x p k T X := by
  simp [LineB, World.setCell, Array.getElem?_modify, show w.heap[b]? = _ from h]
theorem LineB.set4 (h : LineB w b V mode s g p k T X) (x : Nat) : LineB (w.setCell ⟨b, 4, none⟩ (.int .i64 (x : Int))) b V mode s g x k T X := by
  simp [LineB, World.setCell, Array.getElem?_modify, show w.heap[b]? = _ from h]
theorem LineB.set5 (h : LineB w b V mode s g p k T X) (x : Nat) : LineB (w.setCell ⟨b, 5, none⟩ (.int .i64 (x : Int))) b V mode s g p x T X := by
  simp [LineB, World.setCell, Array.getElem?_modify, show w.heap[b]? = _ from h]
end
theorem grown_setAt (w : World) (b j : Nat) (v : Value) : w.grownBy (w.setCell ⟨b, j, none⟩ v) (some b) :=
  ⟨rfl, rfl, rfl, by simp, fun k _ hk => Below.heap_setCell _ _ _ k (fun e => hk (by rw [e]))⟩
theorem grown_drew {w w' : World} {row : Option Nat} (h : w.grownBy w' row) (q : Nat) : (w.drewN q).grownBy w' row := ⟨h.os, h.tape, h.output, h.size, h.block⟩
theorem grown_toDrew {w w' : World} {row : Option Nat} {q : Nat} (h : (w.drewN q).grownBy w' row) : w.grownBy w' row := ⟨h.os, h.tape, h.output, h.size, h.block⟩
def OneP (w : World) (ad : Addr) (x most : Nat) (e : Ending) (w' : World) : Prop :=
  if most ≤ x then e = .returned (.int .i64 5) ∧ w' = w else e = .returned (.int .i64 0) ∧ w' = w.setCell ad (.int .i64 ((x + 1 : Nat) : Int))
theorem ship_one (ad : Addr) (x most : Nat) (w : World) (hc : w.cell? ad = some (.int .i64 (x : Int))) (hf : w.frozen? ad = false) (hx : x ≤ 1000) (hm : most ≤ 1000) :
    Calls Try.prog 32 #[.pointer (some ad), .int .i64 (most : Int)] w (OneP w ad x most) := by
  by_cases h : most ≤ x
  · have i0 : (most : Int) ≤ (x : Int) := by omega
    go_enter Try.func32, Try.ntmps32
    go_wp2
    go_ret
    unfold OneP
    rw [if_pos h]
    exact ⟨rfl, rfl⟩
  · have i0 : ¬ (most : Int) ≤ (x : Int) := by omega
    go_enter Try.func32, Try.ntmps32
    go_wp2
    go_ret
    unfold OneP
    rw [if_neg h]
    exact ⟨rfl, rfl⟩
theorem ship_Told {T : TypeId} {X : List Value} (b N c mode s g p k : Nat) (A : Option Addr) (w : World) (h : LineB w b (.slice A N c) mode s g p k T X) :
    Calls Try.prog 16 #[.pointer (some ⟨b, 0, none⟩)] w (Ret w (.int .i64 ((if mode = 1 then N else k : Nat) : Int))) := by
  have c0 := h.c0
  have c1 := h.c1
  have c5 := h.c5
  clear h
  by_cases h1 : mode = 1
  · subst h1
    go_enter Try.func16, Try.ntmps16
    go_wp2
    go_ret
    exact ⟨rfl, rfl⟩
  · have t0 : ((mode : Int) == 1) = false := by simp; omega
    go_enter Try.func16, Try.ntmps16
    go_wp2
    go_ret
    exact ⟨rfl, rfl⟩
/-- what a step does to a line: its code, is it known, sent, come, put, known -/
structure LineT where
  e : Nat
  ok : Bool
  s : Nat
  g : Nat
  p : Nat
  k : Nat
def doS (N mode s g p k : Nat) (kind : Int) : LineT :=
  if kind = 2 then (if N ≤ s then ⟨5, true, s, g, p, k⟩ else ⟨0, true, s + 1, g, p, k⟩)
  else if kind = 3 then (if s ≤ g then ⟨5, true, s, g, p, k⟩ else ⟨0, true, s, g + 1, p, k⟩)
  else if kind = 4 then (if g ≤ p then ⟨5, true, s, g, p, k⟩ else ⟨0, true, s, g, p + 1, k⟩)
  else if kind = 6 then ⟨0, true, g, g, p, k⟩
  else if kind = 5 then ⟨0, true, s, g, p, if mode = 3 then p else g⟩
  else ⟨6, false, s, g, p, k⟩
def DoP (T : TypeId) (X : List Value) (w : World) (b : Nat) (V : Value) (mode : Nat) (t : LineT) (e : Ending) (w' : World) : Prop :=
  e = .returned (.tuple #[.int .i64 (t.e : Int), .bool t.ok]) ∧ LineB w' b V mode t.s t.g t.p t.k T X ∧ w.grownBy w' (some b)
theorem LineB.drew {w : World} {b mode s g p k : Nat} {V : Value} {T : TypeId} {X : List Value} (h : LineB w b V mode s g p k T X) : LineB w.drew b V mode s g p k T X := h
theorem grown_fromD {w w' : World} {row : Option Nat} (h : w.drew.grownBy w' row) : w.grownBy w' row := ⟨h.os, h.tape, h.output, h.size, h.block⟩
theorem grown_dr {w w' : World} {row : Option Nat} (h : w.grownBy w' row) : w.grownBy w'.drew row := ⟨h.os, h.tape, h.output, h.size, h.block⟩
set_option maxRecDepth 100000 in
set_option maxHeartbeats 800000 in
theorem ship_Do2 {T : TypeId} {X : List Value} (b N c mode s g p k : Nat) (A : Option Addr) (w : World) (h : LineB w b (.slice A N c) mode s g p k T X) (hN : N ≤ 1000) (hs : s ≤ 1000) (hg : g ≤ 1000) (hp : p ≤ 1000) :
    Calls Try.prog 23 #[.pointer (some ⟨b, 0, none⟩), .int .i64 2] w (DoP T X w b (.slice A N c) mode (doS N mode s g p k 2)) := by
  have c1 := h.c1
  have c2 := h.c2
  have c0 := ship_one ⟨b, 2, none⟩ s N w.drew h.c2 (h.free 2) (by omega) (by omega)
  have HL := Lib.hid h
  clear h
  by_cases hle : N ≤ s
  · have HD : Hid (doS N mode s g p k 2 = ⟨5, true, s, g, p, k⟩) := by unfold Hid; simp [doS, hle]
    have c0 := c0.mono (fun e w' (h : OneP w.drew ⟨b, 2, none⟩ s N e w') => (by unfold OneP at h; rw [if_pos hle] at h; exact h : e = .returned (.int .i64 5) ∧ w' = w.drew))
    rw [HD.out]
    clear hle
    go_enter Try.func23, Try.ntmps23
    go_wp2
    go_still_tail 8, (by kernel_rfl)
    go_wp2_with (go_at_call 32; refine c0.mono ?_; clear c0; rintro e w1 ⟨rfl, rfl⟩)
    go_ret2
    exact ⟨rfl, HL.out.keep rfl, grown_dr (World.grownBy.refl w _)⟩
  · have HD : Hid (doS N mode s g p k 2 = ⟨0, true, s + 1, g, p, k⟩) := by unfold Hid; simp [doS, hle]
    have c0 := c0.mono (fun e w' (h : OneP w.drew ⟨b, 2, none⟩ s N e w') => (by unfold OneP at h; rw [if_neg hle] at h; exact h : e = .returned (.int .i64 0) ∧ w' = w.drew.setCell ⟨b, 2, none⟩ (.int .i64 ((s + 1 : Nat) : Int))))
    rw [HD.out]
    have hset := HL.out.drew.set2 (s + 1)
    have HSET := Lib.hid hset
    clear hle hset
    go_enter Try.func23, Try.ntmps23
    go_wp2
    go_still_tail 8, (by kernel_rfl)
    go_wp2_with (go_at_call 32; refine c0.mono ?_; clear c0; rintro e w1 ⟨rfl, rfl⟩)
    go_ret2
    exact ⟨rfl, HSET.out, grown_fromD (grown_setAt w.drew b 2 _)⟩
set_option maxRecDepth 100000 in
set_option maxHeartbeats 800000 in
theorem ship_Do3 {T : TypeId} {X : List Value} (b N c mode s g p k : Nat) (A : Option Addr) (w : World) (h : LineB w b (.slice A N c) mode s g p k T X) (hN : N ≤ 1000) (hs : s ≤ 1000) (hg : g ≤ 1000) (hp : p ≤ 1000) :
    Calls Try.prog 23 #[.pointer (some ⟨b, 0, none⟩), .int .i64 3] w (DoP T X w b (.slice A N c) mode (doS N mode s g p k 3)) := by
  have c1 := h.c2
  have c2 := h.c3
  have c0 := ship_one ⟨b, 3, none⟩ g s w.drew h.c3 (h.free 3) (by omega) (by omega)
  have HL := Lib.hid h
  clear h
  by_cases hle : s ≤ g
  · have HD : Hid (doS N mode s g p k 3 = ⟨5, true, s, g, p, k⟩) := by unfold Hid; simp [doS, hle]
    have c0 := c0.mono (fun e w' (h : OneP w.drew ⟨b, 3, none⟩ g s e w') => (by unfold OneP at h; rw [if_pos hle] at h; exact h : e = .returned (.int .i64 5) ∧ w' = w.drew))
    rw [HD.out]
    clear hle
    go_enter Try.func23, Try.ntmps23
    go_wp2
    go_still_tail 7, (by kernel_rfl)
    go_wp2_with (go_at_call 32; refine c0.mono ?_; clear c0; rintro e w1 ⟨rfl, rfl⟩)
    go_ret2
    exact ⟨rfl, HL.out.keep rfl, grown_dr (World.grownBy.refl w _)⟩
  · have HD : Hid (doS N mode s g p k 3 = ⟨0, true, s, g + 1, p, k⟩) := by unfold Hid; simp [doS, hle]
    have c0 := c0.mono (fun e w' (h : OneP w.drew ⟨b, 3, none⟩ g s e w') => (by unfold OneP at h; rw [if_neg hle] at h; exact h : e = .returned (.int .i64 0) ∧ w' = w.drew.setCell ⟨b, 3, none⟩ (.int .i64 ((g + 1 : Nat) : Int))))
    rw [HD.out]
    have hset := HL.out.drew.set3 (g + 1)
    have HSET := Lib.hid hset
    clear hle hset
    go_enter Try.func23, Try.ntmps23
    go_wp2
    go_still_tail 7, (by kernel_rfl)
    go_wp2_with (go_at_call 32; refine c0.mono ?_; clear c0; rintro e w1 ⟨rfl, rfl⟩)
    go_ret2
    exact ⟨rfl, HSET.out, grown_fromD (grown_setAt w.drew b 3 _)⟩
set_option maxRecDepth 100000 in
set_option maxHeartbeats 800000 in
theorem ship_Do4 {T : TypeId} {X : List Value} (b N c mode s g p k : Nat) (A : Option Addr) (w : World) (h : LineB w b (.slice A N c) mode s g p k T X) (hN : N ≤ 1000) (hs : s ≤ 1000) (hg : g ≤ 1000) (hp : p ≤ 1000) :
    Calls Try.prog 23 #[.pointer (some ⟨b, 0, none⟩), .int .i64 4] w (DoP T X w b (.slice A N c) mode (doS N mode s g p k 4)) := by
  have c1 := h.c3
  have c2 := h.c4
  have c0 := ship_one ⟨b, 4, none⟩ p g w.drew h.c4 (h.free 4) (by omega) (by omega)
  have HL := Lib.hid h
  clear h
  by_cases hle : g ≤ p
  · have HD : Hid (doS N mode s g p k 4 = ⟨5, true, s, g, p, k⟩) := by unfold Hid; simp [doS, hle]
    have c0 := c0.mono (fun e w' (h : OneP w.drew ⟨b, 4, none⟩ p g e w') => (by unfold OneP at h; rw [if_pos hle] at h; exact h : e = .returned (.int .i64 5) ∧ w' = w.drew))
    rw [HD.out]
    clear hle
    go_enter Try.func23, Try.ntmps23
    go_wp2
    go_still_tail 7, (by kernel_rfl)
    go_wp2_with (go_at_call 32; refine c0.mono ?_; clear c0; rintro e w1 ⟨rfl, rfl⟩)
    go_ret2
    exact ⟨rfl, HL.out.keep rfl, grown_dr (World.grownBy.refl w _)⟩
  · have HD : Hid (doS N mode s g p k 4 = ⟨0, true, s, g, p + 1, k⟩) := by unfold Hid; simp [doS, hle]
    have c0 := c0.mono (fun e w' (h : OneP w.drew ⟨b, 4, none⟩ p g e w') => (by unfold OneP at h; rw [if_neg hle] at h; exact h : e = .returned (.int .i64 0) ∧ w' = w.drew.setCell ⟨b, 4, none⟩ (.int .i64 ((p + 1 : Nat) : Int))))
    rw [HD.out]
    have hset := HL.out.drew.set4 (p + 1)
    have HSET := Lib.hid hset
    clear hle hset
    go_enter Try.func23, Try.ntmps23
    go_wp2
    go_still_tail 7, (by kernel_rfl)
    go_wp2_with (go_at_call 32; refine c0.mono ?_; clear c0; rintro e w1 ⟨rfl, rfl⟩)
    go_ret2
    exact ⟨rfl, HSET.out, grown_fromD (grown_setAt w.drew b 4 _)⟩
set_option maxHeartbeats 800000 in
theorem ship_Do6 {T : TypeId} {X : List Value} (b N c mode s g p k : Nat) (A : Option Addr) (w : World) (h : LineB w b (.slice A N c) mode s g p k T X) :
    Calls Try.prog 23 #[.pointer (some ⟨b, 0, none⟩), .int .i64 6] w (DoP T X w b (.slice A N c) mode (doS N mode s g p k 6)) := by
  have c3 := h.c3
  have c2 := h.c2
  have f2 := h.free 2
  have HD : Hid (doS N mode s g p k 6 = ⟨0, true, g, g, p, k⟩) := by unfold Hid; simp [doS]
  have HSET := Lib.hid (h.set2 g)
  rw [HD.out]
  clear h
  go_enter Try.func23, Try.ntmps23
  go_wp2
  go_ret2
  exact ⟨rfl, HSET.out, grown_setAt w b 2 _⟩
set_option maxHeartbeats 800000 in
theorem ship_Do5 {T : TypeId} {X : List Value} (b N c mode s g p k : Nat) (A : Option Addr) (w : World) (h : LineB w b (.slice A N c) mode s g p k T X) :
    Calls Try.prog 23 #[.pointer (some ⟨b, 0, none⟩), .int .i64 5] w (DoP T X w b (.slice A N c) mode (doS N mode s g p k 5)) := by
  have c3 := h.c3
  have c5 := h.c5
  have f5 := h.free 5
  by_cases hm : mode = 3
  · subst hm
    have HD : Hid (doS N 3 s g p k 5 = ⟨0, true, s, g, p, p⟩) := by unfold Hid; simp [doS]
    have h5 := h.set5 g
    have d0 := h5.c0
    have d4 := h5.c4
    have d5 := h5.c5
    have g5 := h5.free 5
    have HSET := Lib.hid (h5.set5 p)
    have HG := Lib.hid ((grown_setAt w b 5 (.int .i64 (g : Int))).trans (grown_setAt _ b 5 (.int .i64 (p : Int))))
    rw [HD.out]
    clear h h5
    go_enter Try.func23, Try.ntmps23
    go_wp2
    go_ret2
    exact ⟨rfl, HSET.out, HG.out⟩
  · have HD : Hid (doS N mode s g p k 5 = ⟨0, true, s, g, p, g⟩) := by unfold Hid; simp [doS, hm]
    have t0 : ((mode : Int) == 3) = false := by simp; omega
    have h5 := h.set5 g
    have d0 := h5.c0
    have HSET := Lib.hid h5
    rw [HD.out]
    clear h h5 hm
    go_enter Try.func23, Try.ntmps23
    go_wp2
    go_ret2
    exact ⟨rfl, HSET.out, grown_setAt w b 5 _⟩
set_option maxHeartbeats 800000 in
theorem ship_DoX {T : TypeId} {X : List Value} (b N c mode s g p k : Nat) (z : Int) (A : Option Addr) (w : World) (h : LineB w b (.slice A N c) mode s g p k T X) (hz : z ≠ 2 ∧ z ≠ 3 ∧ z ≠ 4 ∧ z ≠ 5 ∧ z ≠ 6) :
    Calls Try.prog 23 #[.pointer (some ⟨b, 0, none⟩), .int .i64 z] w (DoP T X w b (.slice A N c) mode (doS N mode s g p k z)) := by
  obtain ⟨h2, h3, h4, h5, h6⟩ := hz
  have HD : Hid (doS N mode s g p k z = ⟨6, false, s, g, p, k⟩) := by unfold Hid; simp [doS, h2, h3, h4, h5, h6]
  have t2 : (z == 2) = false := by simpa using h2
  have t3 : (z == 3) = false := by simpa using h3
  have t4 : (z == 4) = false := by simpa using h4
  have t5 : (z == 5) = false := by simpa using h5
  have t6 : (z == 6) = false := by simpa using h6
  rw [HD.out]
  clear h2 h3 h4 h5 h6
  go_enter Try.func23, Try.ntmps23
  go_wp2
  go_ret2
  exact ⟨rfl, h, World.grownBy.refl w _⟩
end Go.Proofs.Ytbhhijdpmpcdnaa

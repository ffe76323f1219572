/-
  quipuref.Ship: words for the walk.
-/
import Derived.Test.YtbhhijdpmpcdnaaShst
set_option linter.unusedVariables false
namespace Go.Proofs.Ytbhhijdpmpcdnaa
open Go.RowKit

section
variable {w w' W : World} {B lb sb gm go : Nat} {WV yV qV CV : Value} {mode s g p k : Nat} {codes : List Nat} {ws : List StS} {main other : List Nat}
theorem LineR.fTy (h : LineR w B lb WV yV qV mode s g p k) {b : Nat} (hb : LineF lb yV qV b) : ∃ cur T, w.heap[b]? = some (.cells cur T (0, 0)) ∧ (T = 55 ∨ T = 3) := by
  rcases hb with rfl | hb | hb
  · exact ⟨_, _, h.box, .inl rfl⟩
  · obtain ⟨cur, hc⟩ := h.way.ty hb; exact ⟨cur, _, hc, .inr rfl⟩
  · obtain ⟨cur, hc⟩ := h.waits.ty hb; exact ⟨cur, _, hc, .inr rfl⟩
/-- a block of another type changed: the line stays -/
theorem LineR.chTy (h : LineR w B lb WV yV qV mode s g p k) {F : Nat → Prop} (hc : Ch w w' F) (hF : ∀ b, F b → ∀ cur T m, w.heap[b]? = some (.cells cur T m) → T ≠ 55 ∧ T ≠ 3) : LineR w' B lb WV yV qV mode s g p k := by
  have hn : ∀ b, LineF lb yV qV b → ¬ F b := fun b hb hf => by
    obtain ⟨cur, T, h1, h2⟩ := h.fTy hb
    have h3 := hF b hf cur T _ h1
    rcases h2 with h2 | h2
    · exact h3.1 h2
    · exact h3.2 h2
  exact h.ch hc (hn lb (.inl rfl)) (fun b hb => hn b (.inr (.inl hb))) (fun b hb => hn b (.inr (.inr hb)))
/-- a cell of a block of another type is set -/
theorem LineR.setTy (h : LineR w B lb WV yV qV mode s g p k) {b j : Nat} {cur : Array Value} {T : TypeId} {m : Nat × Nat} (hb : w.heap[b]? = some (.cells cur T m)) (h1 : T ≠ 55) (h2 : T ≠ 3) (u : Value) : LineR (w.setCell ⟨b, j, none⟩ u) B lb WV yV qV mode s g p k :=
  h.chTy ((Ch.refl w (fun x => x = b)).setCell b j u (fun _ => rfl)) (fun x hx cur' T' m' hx' => by
    subst hx
    rw [hb] at hx'
    injection hx' with hx'
    injection hx' with _ e
    subst e
    exact ⟨h1, h2⟩)
theorem LineR.alloc (h : LineR w B lb WV yV qV mode s g p k) (o : Obj) : LineR (w.alloc o) B lb WV yV qV mode s g p k :=
  h.chTy ((Ch.refl w (fun _ => False)).alloc o) (fun _ hf => hf.elim)
/-- another box of the answer's type -/
theorem BoxV.chLine {b : Nat} {T : TypeId} {vs : List Value} (h : BoxV w b T vs) {WV' : Value} (hl : LineR w B lb WV' yV qV mode s g p k) (hc : Ch w w' (LineF lb yV qV)) (h1 : T ≠ 55) (h2 : T ≠ 3) : BoxV w' b T vs :=
  h.ch hc (fun hf => by
    obtain ⟨cur', T', h3, h4⟩ := hl.fTy hf
    have h5 : w.heap[b]? = some (.cells vs.toArray T (0, 0)) := h
    rw [h5] at h3
    injection h3 with h3
    injection h3 with _ e
    subst e
    rcases h4 with h4 | h4
    · exact h1 h4
    · exact h2 h4)
theorem LineR.low (h : LineR w B lb WV yV qV mode s g p k) (hl : B ≤ lb) {b : Nat} (hb : LineF lb yV qV b) : B ≤ b := by
  rcases hb with rfl | hb | hb
  · exact hl
  · exact (h.way.lt b hb).1
  · exact (h.waits.lt b hb).1
/-- a write was added and laid into the line's box -/
theorem LineR.push {WV' : Value} {x : StS} (h : LineR w B lb WV yV qV mode s g p k) (hw : OwnQ w B 35 4 WV (ws.map stC)) (hg : w.grownBy w' WV.ownBlock) : LineR (w'.setCell ⟨lb, 1, none⟩ WV') B lb WV' yV qV mode s g p k := by
  have hc := Ch.of_grown hg
  have h2 := h.chTy hc (fun b hb cur T m e => by
    obtain ⟨c, e'⟩ := hw.ty hb
    rw [e'] at e
    injection e with e
    injection e with _ e
    subst e
    exact ⟨by decide, by decide⟩)
  exact ⟨h2.box.set 1 WV', h2.way.setOther _ _ (h2.way.notBox h2.box (by decide)), h2.waits.setOther _ _ (h2.waits.notBox h2.box (by decide)), h2.ne, h2.le1, h2.le2⟩
end
/-- Do of every kind from 2 to 6 -/
theorem ref_Do (B lb mode s g p k : Nat) (yV qV : Value) (A : Option Addr) (N c : Nat) (w : World) (h : LineR w B lb (.slice A N c) yV qV mode s g p k) (hN : N ≤ 1000) (hs : s ≤ 1000) (hg : g ≤ 1000) (hp : p ≤ 1000) (hB : B ≤ w.heap.size) (z : Int) (h2 : 2 ≤ z) (h6 : z ≤ 6) :
    Calls Try.prog 26 #[.pointer (some ⟨lb, 0, none⟩), .int .i64 z] w (DoRP w B lb (.slice A N c) yV qV mode (doS N mode s g p k z) (if z = 4 ∧ p < g then (p : Int) else -1)) := by
  by_cases e2 : z = 2
  · subst e2
    rw [if_neg (fun e => by omega)]
    by_cases hle : N ≤ s
    · exact ref_Do2no B lb mode s g p k _ yV qV w h A N c rfl hle
    · exact ref_Do2 B lb mode s g p k _ yV qV w h A N c rfl (by omega) hN hB
  by_cases e3 : z = 3
  · subst e3
    rw [if_neg (fun e => by omega)]
    by_cases hle : s ≤ g
    · exact ref_Do3no B lb mode s g p k _ yV qV w h N hle
    · exact ref_Do3 B lb mode s g p k _ yV qV w h N (by omega) hs hB
  by_cases e4 : z = 4
  · subst e4
    by_cases hle : g ≤ p
    · rw [if_neg (fun e => by omega)]
      exact ref_Do4no B lb mode s g p k _ yV qV w h N hle
    · rw [if_pos ⟨rfl, by omega⟩]
      exact ref_Do4 B lb mode s g p k _ yV qV w h N (by omega) hg
  rw [if_neg (fun e => e4 e.1)]
  by_cases e5 : z = 5
  · subst e5; exact ref_Do5 B lb mode s g p k _ yV qV w h N hg
  · obtain rfl : z = 6 := by omega
    exact ref_Do6 B lb mode s g p k _ yV qV w h N hs
end Go.Proofs.Ytbhhijdpmpcdnaa

/-
  (*quipuref.Line).Got, Told, Do.
-/
import Derived.Test.YtbhhijdpmpcdnaaShip
import Derived.Test.YtbhhijdpmpcdnaaCh
import Derived.BigRegion
import Derived.BigQuiet
import Derived.Deep.QuietTactic
set_option linter.unusedVariables false
namespace Go.Proofs.Ytbhhijdpmpcdnaa
open Go.RowKit

theorem el_int1 : ElemK Try.prog 53 3 1 8 := ElemK.mk' (z := .int .i64 0) Try.underlying53 (by kernel_rfl) rfl (by omega)
/-- the numbers p .. p + n - 1, as a queue -/
def natQ (p n : Nat) : List (List Value) := (List.range' p n).map fun i : Nat => [Value.int .i64 (i : Int)]
theorem natQ_snoc (p n : Nat) : natQ p n ++ [[Value.int .i64 ((p + n : Nat) : Int)]] = natQ p (n + 1) := by
  unfold natQ; rw [List.range'_1_concat, List.map_append]; rfl
theorem natQ_cons (p n : Nat) : natQ p (n + 1) = [Value.int .i64 (p : Int)] :: natQ (p + 1) n := by
  unfold natQ; rw [List.range'_succ]; rfl
theorem natQ_len (p n : Nat) : (natQ p n).length = n := by simp [natQ]
/-- block lb holds a line of the reference: what is on the way are the numbers g .. s - 1, what waits p .. g - 1 -/
structure LineR (w : World) (B lb : Nat) (WV yV qV : Value) (mode s g p k : Nat) : Prop where
  box : BoxV w lb 55 [.int .i64 (mode : Int), WV, .int .i64 (s : Int), yV, qV, .int .i64 (p : Int), .int .i64 (k : Int)]
  way : OwnQ w B 3 1 yV (natQ g (s - g))
  waits : OwnQ w B 3 1 qV (natQ p (g - p))
  ne : ∀ b, yV.ownBlock = some b → qV.ownBlock ≠ some b
  le1 : p ≤ g
  le2 : g ≤ s
section
variable {w w' : World} {B lb mode s g p k : Nat} {WV yV qV : Value} {F : Nat → Prop}
theorem LineR.drewN (h : LineR w B lb WV yV qV mode s g p k) (n : Nat) : LineR (w.drewN n) B lb WV yV qV mode s g p k := ⟨h.box, h.way.drewN n, h.waits.drewN n, h.ne, h.le1, h.le2⟩
theorem LineR.drew (h : LineR w B lb WV yV qV mode s g p k) : LineR w.drew B lb WV yV qV mode s g p k := ⟨h.box, h.way.drew, h.waits.drew, h.ne, h.le1, h.le2⟩
theorem LineR.ch (h : LineR w B lb WV yV qV mode s g p k) (hc : Ch w w' F) (h1 : ¬ F lb) (h2 : ∀ b, yV.ownBlock = some b → ¬ F b) (h3 : ∀ b, qV.ownBlock = some b → ¬ F b) : LineR w' B lb WV yV qV mode s g p k :=
  ⟨h.box.ch hc h1, h.way.ch hc h2, h.waits.ch hc h3, h.ne, h.le1, h.le2⟩
/-- the blocks of a line -/
def LineF (lb : Nat) (yV qV : Value) : Nat → Prop := fun b => b = lb ∨ yV.ownBlock = some b ∨ qV.ownBlock = some b
def DoRP (w : World) (B lb : Nat) (WV yV qV : Value) (mode : Nat) (t : LineT) (x : Int) (e : Ending) (w' : World) : Prop :=
  e = .returned (.tuple #[.int .i64 (t.e : Int), .int .i64 x]) ∧ ∃ yV' qV', LineR w' B lb WV yV' qV' mode t.s t.g t.p t.k ∧ Ch w w' (LineF lb yV qV)
theorem LineR.yform (h : LineR w B lb WV yV qV mode s g p k) : ∃ A c, yV = .slice A (s - g) c := by
  obtain ⟨A, c, e⟩ := h.way.form
  exact ⟨A, c, by rw [e, natQ_len]⟩
theorem LineR.qform (h : LineR w B lb WV yV qV mode s g p k) : ∃ A c, qV = .slice A (g - p) c := by
  obtain ⟨A, c, e⟩ := h.waits.form
  exact ⟨A, c, by rw [e, natQ_len]⟩
end
section
variable (B lb mode s g p k : Nat) (WV yV qV : Value) (w : World) (h : LineR w B lb WV yV qV mode s g p k)
include h
theorem ref_Got (hg : g ≤ 1000) : Calls Try.prog 33 #[.pointer (some ⟨lb, 0, none⟩)] w (RetQ w (.int .i64 (g : Int))) := by
  obtain ⟨A, c, rfl⟩ := h.qform
  have c5 := h.box.cell (j := 5) rfl
  have c4 := h.box.cell (j := 4) rfl
  obtain ⟨n, hn⟩ : ∃ n, g - p = n := ⟨_, rfl⟩
  have h1 := h.le1
  rw [hn] at c4
  have e : Hid ((p : Int) + (n : Int) = (g : Int)) := by unfold Hid; omega
  have i0 : n ≤ 1000 := by omega
  have i1 : p ≤ 1000 := by omega
  clear h hn h1
  go_enter Try.func33, Try.ntmps33
  go_wp2
  go_quiet (fail)
  go_wp2
  go_ret
  exact ⟨ret_i e.out, nq, rfl⟩
theorem ref_Told (A : Option Addr) (N c : Nat) (hW : WV = .slice A N c) : Calls Try.prog 18 #[.pointer (some ⟨lb, 0, none⟩)] w (Ret w (.int .i64 ((if mode = 1 then N else k : Nat) : Int))) := by
  subst hW
  have c0 := h.box.cell (j := 0) rfl
  have c1 := h.box.cell (j := 1) rfl
  have c5 := h.box.cell (j := 6) rfl
  clear h
  by_cases h1 : mode = 1
  · subst h1
    go_enter Try.func18, Try.ntmps18
    go_wp2
    go_ret
    exact ⟨rfl, rfl⟩
  · have t0 : ((mode : Int) == 1) = false := by simp; omega
    go_enter Try.func18, Try.ntmps18
    go_wp2
    go_ret
    exact ⟨rfl, rfl⟩
set_option maxHeartbeats 800000 in
theorem ref_Do2no (A : Option Addr) (N c : Nat) (hW : WV = .slice A N c) (hle : N ≤ s) : Calls Try.prog 26 #[.pointer (some ⟨lb, 0, none⟩), .int .i64 2] w (DoRP w B lb WV yV qV mode (doS N mode s g p k 2) (-1)) := by
  subst hW
  have HD : Hid (doS N mode s g p k 2 = ⟨5, true, s, g, p, k⟩) := by unfold Hid; simp [doS, hle]
  rw [HD.out]
  have c1 := h.box.cell (j := 1) rfl
  have c2 := h.box.cell (j := 2) rfl
  have i0 : ¬ (s : Int) < (N : Int) := by omega
  have H := Lib.hid h
  clear h hle
  go_enter Try.func26, Try.ntmps26
  go_wp2
  go_quiet (fail)
  go_wp2
  go_ret2
  exact ⟨rfl, _, _, H.out.drewN _, (Ch.refl _ _).drewN _⟩
set_option maxRecDepth 100000 in
set_option maxHeartbeats 1600000 in
theorem ref_Do2 (A : Option Addr) (N c : Nat) (hW : WV = .slice A N c) (hle : s < N) (hN : N ≤ 1000) (hB : B ≤ w.heap.size) : Calls Try.prog 26 #[.pointer (some ⟨lb, 0, none⟩), .int .i64 2] w (DoRP w B lb WV yV qV mode (doS N mode s g p k 2) (-1)) := by
  subst hW
  have HD : Hid (doS N mode s g p k 2 = ⟨0, true, s + 1, g, p, k⟩) := by unfold Hid; simp [doS]; omega
  rw [HD.out]
  have c1 := h.box.cell (j := 1) rfl
  have c2 := h.box.cell (j := 2) rfl
  have i0 : (s : Int) < (N : Int) := by omega
  have hl2 := h.le2
  obtain ⟨n, hn⟩ : ∃ n, s - g = n := ⟨_, rfl⟩
  have HN : Hid (g + n = s) := by unfold Hid; omega
  have H := Lib.hid h
  clear h hle hl2 hn
  go_enter Try.func26, Try.ntmps26
  go_wp2
  go_quiet (fail)
  clear c1 c2
  obtain ⟨w4, hw4⟩ : ∃ x, x = w.drewN nq := ⟨_, rfl⟩
  rw [← hw4]
  have h4 := H.out.drewN nq
  have hc4 : Ch w w4 (LineF lb yV qV) := by rw [hw4]; exact (Ch.refl _ _).drewN _
  have hs4 : Hid (w4.heap.size = w.heap.size) := by unfold Hid; rw [hw4]; rfl
  rw [← hw4] at h4
  clear hw4
  have c2 := h4.box.cell (j := 2) rfl
  have c3 := h4.box.cell (j := 3) rfl
  have hA := h4.box.alloc (.cells #[.int .i64 (s : Int)] 3)
  have d3 := hA.cell (j := 3) rfl
  have d2 := hA.cell (j := 2) rfl
  have HQ := Lib.hid (h4.way.alloc (.cells #[.int .i64 (s : Int)] 3)).drew
  have HA := Lib.hid hA
  have H4 := Lib.hid h4
  have HC4 := Lib.hid hc4
  have HYS : Hid (natQ g (s - g) ++ [[Value.int .i64 (s : Int)]] = natQ g (n + 1)) := by unfold Hid; rw [show s - g = n by have := HN.out; omega, ← natQ_snoc, HN.out]
  have hn0 : n ≤ s := by have := HN.out; omega
  have hnew : ∀ j u, [Value.int .i64 (s : Int)][j]? = some u → (w4.alloc (.cells #[.int .i64 (s : Int)] 3)).drew.cell? ((⟨w4.heap.size, 0, none⟩ : Addr).add j) = some u := fun j u hu => by
    rw [add_row]; exact (BoxV.new w4 [.int .i64 (s : Int)] 3).cell hu
  have HNEW := Lib.hid hnew
  clear h4 hA hc4 hnew
  go_wp2
  go_region_law (refine step_appQs el_int1 rfl (.tmp 25) (.tmp 30) rfl rfl HQ.out ⟨w4.heap.size, 0, none⟩ 1 [.int .i64 (s : Int)] (natQ g (n + 1)) (n + 1) HYS (natQ_len _ _) rfl rfl HNEW.out (by intro u hu; rw [List.mem_singleton.1 hu]; rfl) (by unfold maxLen; omega) (by omega) (by have := hs4.out; simp; omega) ?_; intro A3 k3 w3 ho3 hg3 hat3; have hb3 : BoxV w3 lb _ _ := HA.out.drew.ch (Ch.of_grown hg3) (fun e => HQ.out.notBox HA.out.drew (by decide) e); have e3 := hb3.cell (j := 3) rfl; have f3 := hb3.free 3)
  all_goals
    have hq3 : OwnQ w3 B 3 1 qV (natQ p (g - p)) := (H4.out.waits.alloc (.cells #[.int .i64 (s : Int)] 3)).drew.ch (Ch.of_grown hg3) (fun b hb e => H4.out.ne b e hb)
    have hfr : ∀ b, (Value.slice A3 (n + 1) k3).ownBlock = some b → qV.ownBlock ≠ some b := by
      intro b hb hq
      rcases hat3 with h5 | h5
      · exact H4.out.ne b (h5.symm.trans hb) hq
      · have h6 := (H4.out.waits.lt b hq).2
        have h7 : some b = some (w4.heap.size + 1) := hb.symm.trans (by simpa using h5)
        injection h7 with h7
        omega
    have hcF := (((HC4.out.alloc (.cells #[.int .i64 (s : Int)] 3)).drew.trans (Ch.of_grown hg3) (G := fun b => yV.ownBlock = some b) (fun b _ e => .inr (.inl e))).setCell lb 3 (.slice A3 (n + 1) k3) (fun _ => .inl rfl)).setCell lb 2 (.int .i64 ((s + 1 : Nat) : Int)) (fun _ => .inl rfl)
    have hb5 := hb3.set 3 (.slice A3 (n + 1) k3)
    have g2 := hb5.cell (j := 2) (u := .int .i64 (s : Int)) rfl
    have k2 := hb5.free 2
    have hb6 := hb5.set 2 (.int .i64 ((s + 1 : Nat) : Int))
    have ho6 := (ho3.setOther ⟨lb, 3, none⟩ (.slice A3 (n + 1) k3) (ho3.notBox hb3 (by decide))).setOther ⟨lb, 2, none⟩ (.int .i64 ((s + 1 : Nat) : Int)) (ho3.notBox hb3 (by decide))
    have hq6 := (hq3.setOther ⟨lb, 3, none⟩ (.slice A3 (n + 1) k3) (hq3.notBox hb3 (by decide))).setOther ⟨lb, 2, none⟩ (.int .i64 ((s + 1 : Nat) : Int)) (hq3.notBox hb3 (by decide))
    have HF : Hid (LineR ((w3.setCell ⟨lb, 3, none⟩ (.slice A3 (n + 1) k3)).setCell ⟨lb, 2, none⟩ (.int .i64 ((s + 1 : Nat) : Int))) B lb (.slice A N c) (.slice A3 (n + 1) k3) qV mode (s + 1) g p k) :=
      ⟨hb6, by rw [show s + 1 - g = n + 1 by have := HN.out; omega]; exact ho6, hq6, hfr, H4.out.le1, by have := HN.out; omega⟩
    have HCF := Lib.hid hcF
    clear hq3 hfr hcF hb5 hb6 ho6 hq6 ho3 hg3 hat3 hb3 c2 c3 d2 d3 e3 f3
    go_wp2
    go_ret2
    exact ⟨rfl, _, _, HF.out, HCF.out⟩
set_option maxHeartbeats 800000 in
theorem ref_Do3no (N : Nat) (hle : s ≤ g) : Calls Try.prog 26 #[.pointer (some ⟨lb, 0, none⟩), .int .i64 3] w (DoRP w B lb WV yV qV mode (doS N mode s g p k 3) (-1)) := by
  have HD : Hid (doS N mode s g p k 3 = ⟨5, true, s, g, p, k⟩) := by unfold Hid; simp [doS, hle]
  rw [HD.out]
  have c3 := h.box.cell (j := 3) rfl
  obtain ⟨A, c, e⟩ := h.yform
  rw [show s - g = 0 by omega] at e
  rw [e] at c3
  have H := Lib.hid h
  clear h hle e
  go_enter Try.func26, Try.ntmps26
  go_wp2
  go_quiet (fail)
  go_wp2
  go_ret2
  exact ⟨rfl, _, _, H.out.drewN _, (Ch.refl _ _).drewN _⟩
set_option maxRecDepth 100000 in
set_option maxHeartbeats 1600000 in
theorem ref_Do3 (N : Nat) (hle : g < s) (hs : s ≤ 1000) (hB : B ≤ w.heap.size) : Calls Try.prog 26 #[.pointer (some ⟨lb, 0, none⟩), .int .i64 3] w (DoRP w B lb WV yV qV mode (doS N mode s g p k 3) (-1)) := by
  have HD : Hid (doS N mode s g p k 3 = ⟨0, true, s, g + 1, p, k⟩) := by unfold Hid; simp [doS]; omega
  rw [HD.out]
  obtain ⟨n, hn⟩ : ∃ n, s - g = n := ⟨_, rfl⟩
  have HN : Hid (g + n = s) := by unfold Hid; omega
  obtain ⟨m, hm⟩ : ∃ m, g - p = m := ⟨_, rfl⟩
  have hl1 := h.le1
  have HM : Hid (p + m = g) := by unfold Hid; omega
  obtain ⟨A, c, rfl⟩ := h.yform
  have hw := h.way
  rw [hn] at hw h ⊢
  obtain ⟨n', hn'⟩ : ∃ n', n = n' + 1 := ⟨n - 1, by omega⟩
  have hw2 := hw
  rw [hn', natQ_cons, ← hn'] at hw2
  obtain ⟨ad, rfl, hsp, -, hcn, htail⟩ := hw2.tail
  rw [natQ_len, show n' = n - 1 by omega] at htail
  rw [natQ_len] at hcn
  obtain ⟨_, e1, _, _, _, hel⟩ := hw2.at_ (i := 0) rfl
  injection e1 with e1
  subst e1
  have hel := hel 0 _ rfl
  obtain ⟨gb, off, sp⟩ := ad
  obtain rfl : sp = none := hsp
  simp only [Nat.zero_mul, Nat.add_zero] at hel
  have i0 : (0 : Int) < (n : Int) := by omega
  have i1 : 1 ≤ n := by omega
  have i2 : n ≤ c := by omega
  have HEL := Lib.hid hel
  have HTAIL := Lib.hid htail
  have H := Lib.hid h
  have HQ0 := Lib.hid h.waits
  rw [hm] at HQ0
  have c3 := h.box.cell (j := 3) rfl
  clear hle hl1 hn hm hw hw2 hn' hcn htail hel
  go_enter Try.func26, Try.ntmps26
  go_wp2
  go_quiet (fail)
  go_wp2
  clear c3 h
  obtain ⟨w4, hw4⟩ : ∃ x, x = w.drewN nq := ⟨_, rfl⟩
  rw [← hw4]
  have h4 := H.out.drewN nq
  have hc4 : Ch w w4 (LineF lb (.slice (some ⟨gb, off, none⟩) n c) qV) := by rw [hw4]; exact (Ch.refl _ _).drewN _
  have hs4 : Hid (w4.heap.size = w.heap.size) := by unfold Hid; rw [hw4]; rfl
  have hel4 : w4.cell? ⟨gb, off, none⟩ = some (.int .i64 (g : Int)) := by rw [hw4]; exact HEL.out
  have ht4 := HTAIL.out.drewN nq
  rw [← hw4] at h4 ht4
  clear hw4
  have c3 := h4.box.cell (j := 3) rfl
  have c4 := h4.box.cell (j := 4) rfl
  have hA := h4.box.alloc (.cells #[.int .i64 (g : Int)] 3)
  have d3 := hA.cell (j := 3) rfl
  have d4 := hA.cell (j := 4) rfl
  have hqa := (h4.waits.alloc (.cells #[.int .i64 (g : Int)] 3)).drew
  rw [show g - p = m by have := HM.out; omega] at hqa
  have HQ := Lib.hid hqa
  have HY := Lib.hid (h4.way.alloc (.cells #[.int .i64 (g : Int)] 3)).drew
  have HTL := Lib.hid (ht4.alloc (.cells #[.int .i64 (g : Int)] 3)).drew
  have HA := Lib.hid hA
  have H4 := Lib.hid h4
  have HC4 := Lib.hid hc4
  have HYS : Hid (natQ p m ++ [[Value.int .i64 (g : Int)]] = natQ p (m + 1)) := by unfold Hid; rw [← natQ_snoc, HM.out]
  have hm0 : m ≤ g := by have := HM.out; omega
  have hg0 : g ≤ 1000 := by have := HN.out; omega
  have hnew : ∀ j u, [Value.int .i64 (g : Int)][j]? = some u → (w4.alloc (.cells #[.int .i64 (g : Int)] 3)).drew.cell? ((⟨w4.heap.size, 0, none⟩ : Addr).add j) = some u := fun j u hu => by
    rw [add_row]; exact (BoxV.new w4 [.int .i64 (g : Int)] 3).cell hu
  have HNEW := Lib.hid hnew
  clear h4 hA hc4 hnew hqa ht4
  go_region_law (refine step_appQs el_int1 rfl (.tmp 56) (.tmp 63) rfl rfl HQ.out ⟨w4.heap.size, 0, none⟩ 1 [.int .i64 (g : Int)] (natQ p (m + 1)) (m + 1) HYS (natQ_len _ _) rfl rfl HNEW.out (by intro u hu; rw [List.mem_singleton.1 hu]; rfl) (by unfold maxLen; omega) (by omega) (by have := hs4.out; simp; omega) ?_; intro A3 k3 w3 ho3 hg3 hat3; have hb3 : BoxV w3 lb _ _ := HA.out.drew.ch (Ch.of_grown hg3) (fun e => HQ.out.notBox HA.out.drew (by decide) e); have e3 := hb3.cell (j := 4) rfl; have f3 := hb3.free 4)
  all_goals
    have hy3 := HTL.out.ch (Ch.of_grown hg3) (fun b hb e => H4.out.ne b (by rw [← hb]; simp [Value.ownBlock]; split <;> rfl) e)
    have hb5 := hb3.set 4 (.slice A3 (m + 1) k3)
    have g2 := hb5.cell (j := 3) (u := .slice (some ⟨gb, off, none⟩) n c) rfl
    have k2 := hb5.free 3
    have hfr : ∀ b, some gb = some b → (Value.slice A3 (m + 1) k3).ownBlock ≠ some b := by
      intro b hb hq
      rcases hat3 with h5 | h5
      · exact H4.out.ne b hb (h5.symm.trans hq)
      · have h6 := (H4.out.way.lt b hb).2
        have h7 : some b = some (w4.heap.size + 1) := hq.symm.trans (by simpa using h5)
        injection h7 with h7
        omega
    have key : Hid (∀ Y : Value, Y.ownBlock = some gb → OwnQ w3 B 3 1 Y (natQ (g + 1) (n - 1)) → LineR ((w3.setCell ⟨lb, 4, none⟩ (.slice A3 (m + 1) k3)).setCell ⟨lb, 3, none⟩ Y) B lb WV Y (.slice A3 (m + 1) k3) mode s (g + 1) p k ∧
        Ch w ((w3.setCell ⟨lb, 4, none⟩ (.slice A3 (m + 1) k3)).setCell ⟨lb, 3, none⟩ Y) (LineF lb (.slice (some ⟨gb, off, none⟩) n c) qV)) := by
      intro Y hY hq
      refine ⟨⟨hb5.set 3 Y, ?_, ?_, fun b hb => hfr b (hY.symm.trans hb), by have := HM.out; omega, by have := HN.out; omega⟩, ?_⟩
      · rw [show s - (g + 1) = n - 1 by have := HN.out; omega]
        exact (hq.setOther ⟨lb, 4, none⟩ _ (hq.notBox hb3 (by decide))).setOther ⟨lb, 3, none⟩ _ (hq.notBox hb3 (by decide))
      · rw [show g + 1 - p = m + 1 by have := HM.out; omega]
        exact (ho3.setOther ⟨lb, 4, none⟩ _ (ho3.notBox hb3 (by decide))).setOther ⟨lb, 3, none⟩ _ (ho3.notBox hb3 (by decide))
      · exact (((HC4.out.alloc (.cells #[.int .i64 (g : Int)] 3)).drew.trans (Ch.of_grown hg3) (G := fun b => qV.ownBlock = some b) (fun b _ e => .inr (.inr e))).setCell lb 4 (.slice A3 (m + 1) k3) (fun _ => .inl rfl)).setCell lb 3 Y (fun _ => .inl rfl)
    clear c3 c4 d3 d4 e3 f3 hb5 hfr ho3 hg3 hat3 hb3
    by_cases hc1 : c = 1
    · subst hc1
      obtain rfl : n = 1 := by omega
      rw [if_pos rfl] at hy3
      have HK := Lib.hid (key.out _ rfl hy3)
      clear hy3 key
      go_wp2
      go_ret2
      exact ⟨rfl, _, _, HK.out.1, HK.out.2⟩
    · rw [if_neg hc1] at hy3
      have HK := Lib.hid (key.out _ rfl hy3)
      clear hy3 key
      go_wp2
      go_ret2
      exact ⟨rfl, _, _, HK.out.1, HK.out.2⟩
set_option maxHeartbeats 800000 in
theorem ref_Do4no (N : Nat) (hle : g ≤ p) : Calls Try.prog 26 #[.pointer (some ⟨lb, 0, none⟩), .int .i64 4] w (DoRP w B lb WV yV qV mode (doS N mode s g p k 4) (-1)) := by
  have HD : Hid (doS N mode s g p k 4 = ⟨5, true, s, g, p, k⟩) := by unfold Hid; simp [doS, hle]
  rw [HD.out]
  have c3 := h.box.cell (j := 4) rfl
  obtain ⟨A, c, e⟩ := h.qform
  rw [show g - p = 0 by omega] at e
  rw [e] at c3
  have H := Lib.hid h
  clear h hle e
  go_enter Try.func26, Try.ntmps26
  go_wp2
  go_quiet (fail)
  go_wp2
  go_ret2
  exact ⟨rfl, _, _, H.out.drewN _, (Ch.refl _ _).drewN _⟩
set_option maxRecDepth 100000 in
set_option maxHeartbeats 1600000 in
theorem ref_Do4 (N : Nat) (hle : p < g) (hg : g ≤ 1000) : Calls Try.prog 26 #[.pointer (some ⟨lb, 0, none⟩), .int .i64 4] w (DoRP w B lb WV yV qV mode (doS N mode s g p k 4) (p : Int)) := by
  have HD : Hid (doS N mode s g p k 4 = ⟨0, true, s, g, p + 1, k⟩) := by unfold Hid; simp [doS]; omega
  rw [HD.out]
  obtain ⟨n, hn⟩ : ∃ n, g - p = n := ⟨_, rfl⟩
  have HN : Hid (p + n = g) := by unfold Hid; omega
  obtain ⟨A, c, rfl⟩ := h.qform
  have hw := h.waits
  rw [hn] at hw h ⊢
  obtain ⟨n', hn'⟩ : ∃ n', n = n' + 1 := ⟨n - 1, by omega⟩
  have hw2 := hw
  rw [hn', natQ_cons, ← hn'] at hw2
  obtain ⟨ad, rfl, hsp, -, hcn, htail⟩ := hw2.tail
  rw [natQ_len, show n' = n - 1 by omega] at htail
  rw [natQ_len] at hcn
  obtain ⟨_, e1, _, _, _, hel⟩ := hw2.at_ (i := 0) rfl
  injection e1 with e1
  subst e1
  have hel := hel 0 _ rfl
  obtain ⟨gb, off, sp⟩ := ad
  obtain rfl : sp = none := hsp
  simp only [Nat.zero_mul, Nat.add_zero] at hel
  have i0 : (0 : Int) < (n : Int) := by omega
  have i1 : 1 ≤ n := by omega
  have i2 : n ≤ c := by omega
  have i3 : p ≤ 1000 := by omega
  have HEL : Hid (∀ q, (w.drewN q).cell? ⟨gb, off, none⟩ = some (.int .i64 (p : Int))) := fun q => hel
  have HTAIL := Lib.hid htail
  have H := Lib.hid h
  have c4 := h.box.cell (j := 4) rfl
  clear hle hn hw hw2 hn' hcn htail hel
  go_enter Try.func26, Try.ntmps26
  go_wp2
  go_quiet (fail)
  clear c4 h
  obtain ⟨w4, hw4⟩ : ∃ x, x = w.drewN nq := ⟨_, rfl⟩
  rw [← hw4]
  have h4 := H.out.drewN nq
  have hc4 : Ch w w4 (LineF lb yV (.slice (some ⟨gb, off, none⟩) n c)) := by rw [hw4]; exact (Ch.refl _ _).drewN _
  have hel4 : w4.cell? ⟨gb, off, none⟩ = some (.int .i64 (p : Int)) := by rw [hw4]; exact HEL.out nq
  have ht4 := HTAIL.out.drewN nq
  rw [← hw4] at h4 ht4
  clear hw4
  have c4 := h4.box.cell (j := 4) rfl
  have f4 := h4.box.free 4
  have key : Hid (∀ Y : Value, Y.ownBlock = some gb → OwnQ w4 B 3 1 Y (natQ (p + 1) (n - 1)) → (w4.setCell ⟨lb, 4, none⟩ Y).cell? ⟨lb, 5, none⟩ = some (.int .i64 (p : Int)) ∧ (w4.setCell ⟨lb, 4, none⟩ Y).frozen? ⟨lb, 5, none⟩ = false ∧ LineR ((w4.setCell ⟨lb, 4, none⟩ Y).setCell ⟨lb, 5, none⟩ (.int .i64 ((p + 1 : Nat) : Int))) B lb WV yV Y mode s g (p + 1) k ∧
      Ch w ((w4.setCell ⟨lb, 4, none⟩ Y).setCell ⟨lb, 5, none⟩ (.int .i64 ((p + 1 : Nat) : Int))) (LineF lb yV (.slice (some ⟨gb, off, none⟩) n c))) := by
    intro Y hY hq
    refine ⟨(h4.box.set 4 Y).cell (j := 5) rfl, (h4.box.set 4 Y).free 5, ⟨(h4.box.set 4 Y).set 5 _, ?_, ?_, fun b hb e => h4.ne b hb (hY.symm.trans e), by have := HN.out; omega, h4.le2⟩, ?_⟩
    · exact (h4.way.setOther ⟨lb, 4, none⟩ _ (h4.way.notBox h4.box (by decide))).setOther ⟨lb, 5, none⟩ _ (h4.way.notBox h4.box (by decide))
    · rw [show g - (p + 1) = n - 1 by have := HN.out; omega]
      exact (hq.setOther ⟨lb, 4, none⟩ _ (hq.notBox h4.box (by decide))).setOther ⟨lb, 5, none⟩ _ (hq.notBox h4.box (by decide))
    · exact (hc4.setCell lb 4 Y (fun _ => .inl rfl)).setCell lb 5 _ (fun _ => .inl rfl)
  clear h4 hc4
  by_cases hc1 : c = 1
  · subst hc1
    obtain rfl : n = 1 := by omega
    rw [if_pos rfl] at ht4
    have hk := key.out _ rfl ht4
    have d5 := hk.1
    have g5 := hk.2.1
    have HK := Lib.hid hk
    clear ht4 key hk
    go_wp2
    go_ret2
    exact ⟨rfl, _, _, HK.out.2.2.1, HK.out.2.2.2⟩
  · rw [if_neg hc1] at ht4
    have hk := key.out _ rfl ht4
    have d5 := hk.1
    have g5 := hk.2.1
    have HK := Lib.hid hk
    clear ht4 key hk
    go_wp2
    go_ret2
    exact ⟨rfl, _, _, HK.out.2.2.1, HK.out.2.2.2⟩
set_option maxHeartbeats 800000 in
theorem ref_Do6 (N : Nat) (hs : s ≤ 1000) : Calls Try.prog 26 #[.pointer (some ⟨lb, 0, none⟩), .int .i64 6] w (DoRP w B lb WV yV qV mode (doS N mode s g p k 6) (-1)) := by
  have HD : Hid (doS N mode s g p k 6 = ⟨0, true, g, g, p, k⟩) := by unfold Hid; simp [doS]
  rw [HD.out]
  obtain ⟨n, hn⟩ : ∃ n, s - g = n := ⟨_, rfl⟩
  have hl2 := h.le2
  have HN : Hid ((s : Int) - (n : Int) = (g : Int)) := by unfold Hid; omega
  obtain ⟨A, c, rfl⟩ := h.yform
  rw [hn] at h ⊢
  have i1 : n ≤ 1000 := by omega
  have H := Lib.hid h
  clear h hn hl2
  go_enter Try.func26, Try.ntmps26
  go_wp2
  go_quiet (fail)
  go_wp2
  obtain ⟨w4, hw4⟩ : ∃ x, x = w.drewN nq := ⟨_, rfl⟩
  rw [← hw4]
  have h4 := H.out.drewN nq
  have hc4 : Ch w w4 (LineF lb (.slice A n c) qV) := by rw [hw4]; exact (Ch.refl _ _).drewN _
  rw [← hw4] at h4
  clear hw4
  have c2 := h4.box.cell (j := 2) rfl
  have c3 := h4.box.cell (j := 3) rfl
  have f2 := h4.box.free 2
  have hb5 := h4.box.set 2 (.int .i64 (g : Int))
  have d3 := hb5.cell (j := 3) rfl
  have e3 := hb5.free 3
  have HF : Hid (LineR ((w4.setCell ⟨lb, 2, none⟩ (.int .i64 (g : Int))).setCell ⟨lb, 3, none⟩ (.slice none 0 0)) B lb WV (.slice none 0 0) qV mode g g p k) :=
    ⟨hb5.set 3 _, by rw [Nat.sub_self]; exact OwnQ.nil _ _ _ _, (h4.waits.setOther ⟨lb, 2, none⟩ _ (h4.waits.notBox h4.box (by decide))).setOther ⟨lb, 3, none⟩ _ (h4.waits.notBox h4.box (by decide)), fun b hb => (by cases hb), h4.le1, Nat.le_refl _⟩
  have HC : Hid (Ch w ((w4.setCell ⟨lb, 2, none⟩ (.int .i64 (g : Int))).setCell ⟨lb, 3, none⟩ (.slice none 0 0)) (LineF lb (.slice A n c) qV)) := (hc4.setCell lb 2 _ (fun _ => .inl rfl)).setCell lb 3 _ (fun _ => .inl rfl)
  clear h4 hc4 hb5
  go_region
  all_goals
    rw [HN.out]
    go_wp2
    go_ret2
    exact ⟨rfl, _, _, HF.out.drew, HC.out.drew⟩
set_option maxHeartbeats 800000 in
theorem ref_Do5 (N : Nat) (hg : g ≤ 1000) : Calls Try.prog 26 #[.pointer (some ⟨lb, 0, none⟩), .int .i64 5] w (DoRP w B lb WV yV qV mode (doS N mode s g p k 5) (-1)) := by
  have cg := fun (q : Nat) => ref_Got B lb mode s g p k WV yV qV (w.drewN q) (h.drewN q) hg
  by_cases hm : mode = 3
  · subst hm
    have HD : Hid (doS N 3 s g p k 5 = ⟨0, true, s, g, p, p⟩) := by unfold Hid; simp [doS]
    rw [HD.out]
    have H := Lib.hid h
    have c0 := h.box.cell (j := 0) rfl
    have c5 := h.box.cell (j := 5) rfl
    have c6 := h.box.cell (j := 6) rfl
    have f6 := h.box.free 6
    clear h cg
    go_enter Try.func26, Try.ntmps26
    go_wp2
    go_quiet (fail)
    go_wp2
    go_ret2
    exact ⟨rfl, _, _, (⟨(H.out.box.drewN nq).set 6 _, (H.out.way.drewN nq).setOther ⟨lb, 6, none⟩ _ ((H.out.way.drewN nq).notBox (H.out.box.drewN nq) (by decide)), (H.out.waits.drewN nq).setOther ⟨lb, 6, none⟩ _ ((H.out.waits.drewN nq).notBox (H.out.box.drewN nq) (by decide)), H.out.ne, H.out.le1, H.out.le2⟩ : LineR _ B lb WV yV qV 3 s g p p), ((Ch.refl _ _).drewN _).setCell lb 6 _ (fun _ => .inl rfl)⟩
  · have HD : Hid (doS N mode s g p k 5 = ⟨0, true, s, g, p, g⟩) := by unfold Hid; simp [doS, hm]
    rw [HD.out]
    have t0 : ((mode : Int) == 3) = false := by simp; omega
    have H := Lib.hid h
    have c0 := h.box.cell (j := 0) rfl
    have c6 := h.box.cell (j := 6) rfl
    have f6 := h.box.free 6
    clear h hm
    go_enter Try.func26, Try.ntmps26
    go_wp2
    go_quiet (fail)
    go_wp2_with (go_at_call 33; refine (cg _).mono ?_; clear cg; rintro e w5 ⟨rfl, q, rfl⟩)
    go_ret2
    exact ⟨rfl, _, _, (⟨(H.out.box.drewN _).set 6 _, (H.out.way.drewN _).setOther ⟨lb, 6, none⟩ _ (H.out.way.notBox H.out.box (by decide)), (H.out.waits.drewN _).setOther ⟨lb, 6, none⟩ _ (H.out.waits.notBox H.out.box (by decide)), H.out.ne, H.out.le1, H.out.le2⟩ : LineR _ B lb WV yV qV mode s g p g), ((Ch.refl _ _).drewN _).setCell lb 6 _ (fun _ => .inl rfl)⟩
end
end Go.Proofs.Ytbhhijdpmpcdnaa

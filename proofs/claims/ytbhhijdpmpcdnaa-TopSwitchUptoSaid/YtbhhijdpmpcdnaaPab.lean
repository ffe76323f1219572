/-
  A pair of sites in memory: the box (a line ahead), the writes, two tables of discs.
-/
import Derived.Test.YtbhhijdpmpcdnaaPas
import Derived.Test.YtbhhijdpmpcdnaaArw
import Derived.Test.YtbhhijdpmpcdnaaArl
set_option linter.unusedVariables false
namespace Go.Proofs.Ytbhhijdpmpcdnaa
open Go.RowKit

/-- where a table of discs lies -/
structure Tb where
  b : Nat
  h : Nat
  gr : Nat → Nat
abbrev ArP := (Nat → Nat → Nat) × Int
def Tb.F (T : Tb) (d : Nat) : Nat → Prop := fun b => b = T.h ∨ ∃ i, i < d ∧ T.gr i = b
def pairX (T0 T1 : Tb) (main told : Nat) : List Value := [.pointer (some ⟨T0.h, 0, none⟩), .pointer (some ⟨T1.h, 0, none⟩), .int .i64 (main : Int), .int .i64 (told : Int)]
def TabT (w : World) (d : Nat) (T : Tb) (a : ArP) : Prop := TabD w T.b T.h (rowsD d) d d T.gr (.int .i64 a.2) a.1
theorem OnlyB.toCh {w w' : World} {T : Tb} {d : Nat} (h : OnlyB w w' T.h d T.gr) : Ch w w' (T.F d) :=
  ⟨h.os, h.tape, h.output, h.size, fun b hb hn => h.block b hb (fun e => hn (.inl e)) (fun i hi e => hn (.inr ⟨i, hi, e⟩))⟩
structure PrR (w : World) (B pb : Nat) (WV : Value) (d mode : Nat) (T0 T1 : Tb) (t : PrT ArP) : Prop where
  line : LineB w pb WV mode t.s t.g t.p t.k 48 (pairX T0 T1 t.main t.told)
  wri : OwnQ w B 35 4 WV (t.ws.map stC)
  tab0 : TabT w d T0 t.a0
  tab1 : TabT w d T1 t.a1
  ap : T0.h < T1.b ∧ (∀ i, i < d → T0.gr i < T1.b) ∧ T0.b < T1.b
  low : B ≤ T0.b ∧ B ≤ pb
  lt0 : ∀ a b, t.a0.1 a b < 256
  lt1 : ∀ a b, t.a1.1 a b < 256
/-- the blocks of a pair -/
def PrF (pb : Nat) (WV : Value) (d : Nat) (T0 T1 : Tb) : Nat → Prop := fun b => b = pb ∨ WV.ownBlock = some b ∨ T0.F d b ∨ T1.F d b
section
variable {w w' : World} {B pb d mode : Nat} {WV : Value} {T0 T1 T : Tb} {t : PrT ArP} {F : Nat → Prop} {a : ArP}
theorem TabT.box (h : TabT w d T a) : w.heap[T.h]? = some (.cells #[.slice (some ⟨T.b, 0, none⟩) d d, .int .i64 a.2] 66 (0, 0)) := TabD.box h
theorem TabT.grTy (h : TabT w d T a) {i : Nat} (hi : i < d) : ∃ cur, w.heap[T.gr i]? = some (.cells cur 5 (0, 0)) := (TabD.row h i hi).ty rfl
theorem TabT.bTy (h : TabT w d T a) : ∃ cur, w.heap[T.b]? = some (.cells cur 33 (0, 0)) := (TabD.col h).ty rfl
theorem TabT.fTy (h : TabT w d T a) {b : Nat} (hb : T.F d b) : ∃ cur E, w.heap[b]? = some (.cells cur E (0, 0)) ∧ (E = 66 ∨ E = 5) := by
  rcases hb with rfl | ⟨i, hi, rfl⟩
  · exact ⟨_, _, h.box, .inl rfl⟩
  · obtain ⟨cur, hc⟩ := h.grTy hi; exact ⟨cur, _, hc, .inr rfl⟩
theorem TabT.ch (h : TabT w d T a) (hc : Ch w w' F) (h1 : ¬ F T.h) (h2 : ¬ F T.b) (h3 : ∀ i, i < d → ¬ F (T.gr i)) : TabT w' d T a :=
  ⟨(hc.block _ (Array.getElem?_eq_some_iff.1 h.box).1 h1).trans h.box, (TabD.col h).ch hc (fun g hg => by injection hg with hg; subst hg; exact h2), fun i hi => (TabD.row h i hi).ch hc (fun g hg => by injection hg with hg; subst hg; exact h3 i hi), TabD.ord h, TabD.inj h⟩
/-- blocks of other types changed -/
theorem TabT.chTy (h : TabT w d T a) (hc : Ch w w' F) (hF : ∀ b, F b → ∀ cur E m, w.heap[b]? = some (.cells cur E m) → E ≠ 66 ∧ E ≠ 5 ∧ E ≠ 33) : TabT w' d T a := by
  refine h.ch hc (fun hf => (hF _ hf _ _ _ h.box).1 rfl) (fun hf => ?_) (fun i hi hf => ?_)
  · obtain ⟨c, hc⟩ := h.bTy; exact (hF _ hf _ _ _ hc).2.2 rfl
  · obtain ⟨c, hc⟩ := h.grTy hi; exact (hF _ hf _ _ _ hc).2.1 rfl
theorem TabT.below (h : TabT w d T a) (hb : Below w.heap.size w w') : TabT w' d T a := TabD.same h hb
theorem TabT.ge (h : TabT w d T a) {b : Nat} (hb : T.F d b) : T.b < b := by
  have ho := TabD.ord h
  rcases hb with rfl | ⟨i, hi, rfl⟩
  · exact ho
  · have h5 : T.h + 1 ≤ T.gr i := ((TabD.row h i hi).lt _ rfl).1
    omega
theorem PrR.fTy (h : PrR w B pb WV d mode T0 T1 t) {b : Nat} (hb : PrF pb WV d T0 T1 b) : ∃ cur E, w.heap[b]? = some (.cells cur E (0, 0)) ∧ (E = 48 ∨ E = 35 ∨ E = 66 ∨ E = 5) := by
  rcases hb with rfl | hb | hb | hb
  · exact ⟨_, _, h.line, .inl rfl⟩
  · obtain ⟨cur, hc⟩ := h.wri.ty hb; exact ⟨cur, _, hc, .inr (.inl rfl)⟩
  · obtain ⟨cur, E, hc, h2⟩ := h.tab0.fTy hb; exact ⟨cur, E, hc, by rcases h2 with h2 | h2 <;> simp [h2]⟩
  · obtain ⟨cur, E, hc, h2⟩ := h.tab1.fTy hb; exact ⟨cur, E, hc, by rcases h2 with h2 | h2 <;> simp [h2]⟩
theorem PrR.fLow (h : PrR w B pb WV d mode T0 T1 t) {b : Nat} (hb : PrF pb WV d T0 T1 b) : B ≤ b := by
  have h1 := h.low
  have h2 := h.ap
  rcases hb with rfl | hb | hb | hb
  · exact h1.2
  · exact (h.wri.lt b hb).1
  · have := h.tab0.ge hb; omega
  · have := h.tab1.ge hb; omega
/-- only things of other types, or new ones, changed -/
theorem PrR.below (h : PrR w B pb WV d mode T0 T1 t) (hb : Below w.heap.size w w') : PrR w' B pb WV d mode T0 T1 t :=
  ⟨LineB.keep h.line (hb.block _ h.line.lt), h.wri.below hb (Nat.le_refl _), h.tab0.below hb, h.tab1.below hb, h.ap, h.low, h.lt0, h.lt1⟩
theorem PrR.drewN (h : PrR w B pb WV d mode T0 T1 t) (n : Nat) : PrR (w.drewN n) B pb WV d mode T0 T1 t := h.below (below_drewN (Below.refl _ _) n)
theorem PrR.alloc (h : PrR w B pb WV d mode T0 T1 t) (o : Obj) : PrR (w.alloc o) B pb WV d mode T0 T1 t := h.below ((Below.refl _ _).alloc (Nat.le_refl _) o)
/-- site 1 changed -/
theorem PrR.ch1 (h : PrR w B pb WV d mode T0 T1 t) {a : ArP} (ht : TabT w' d T1 a) (hc : Ch w w' (T1.F d)) (hl : ∀ x y, a.1 x y < 256) : PrR w' B pb WV d mode T0 T1 { t with a1 := a } := by
  have hn : ∀ b cur E m, w.heap[b]? = some (.cells cur E m) → E ≠ 66 → E ≠ 5 → ¬ T1.F d b := fun b cur E m hb h1 h2 hf => by
    obtain ⟨cur', E', h3, h4⟩ := h.tab1.fTy hf
    rw [hb] at h3
    injection h3 with h3
    injection h3 with _ e
    subst e
    rcases h4 with h4 | h4
    · exact h1 h4
    · exact h2 h4
  have h2 := h.ap
  refine ⟨LineB.keep h.line (hc.block _ h.line.lt (hn _ _ _ _ h.line (by decide) (by decide))), h.wri.ch hc (fun b hb => by obtain ⟨c, e⟩ := h.wri.ty hb; exact hn _ _ _ _ e (by decide) (by decide)), h.tab0.ch hc ?_ ?_ ?_, ht, h.ap, h.low, h.lt0, hl⟩
  · intro hf; have := h.tab1.ge hf; omega
  · intro hf; have := h.tab1.ge hf; omega
  · intro i hi hf; have := h.tab1.ge hf; have := h2.2.1 i hi; omega
/-- site 0 changed -/
theorem PrR.ch0 (h : PrR w B pb WV d mode T0 T1 t) {a : ArP} (ht : TabT w' d T0 a) (hc : Ch w w' (T0.F d)) (hl : ∀ x y, a.1 x y < 256) : PrR w' B pb WV d mode T0 T1 { t with a0 := a } := by
  have hn : ∀ b cur E m, w.heap[b]? = some (.cells cur E m) → E ≠ 66 → E ≠ 5 → ¬ T0.F d b := fun b cur E m hb h1 h2 hf => by
    obtain ⟨cur', E', h3, h4⟩ := h.tab0.fTy hf
    rw [hb] at h3
    injection h3 with h3
    injection h3 with _ e
    subst e
    rcases h4 with h4 | h4
    · exact h1 h4
    · exact h2 h4
  have h2 := h.ap
  have hlo : ∀ b, T0.F d b → b < T1.b := fun b hb => by
    rcases hb with rfl | ⟨i, hi, rfl⟩
    · exact h2.1
    · exact h2.2.1 i hi
  refine ⟨LineB.keep h.line (hc.block _ h.line.lt (hn _ _ _ _ h.line (by decide) (by decide))), h.wri.ch hc (fun b hb => by obtain ⟨c, e⟩ := h.wri.ty hb; exact hn _ _ _ _ e (by decide) (by decide)), ht, h.tab1.ch hc ?_ ?_ ?_, h.ap, h.low, hl, h.lt1⟩
  · intro hf; have := hlo _ hf; have := TabD.ord h.tab1; omega
  · intro hf; have := hlo _ hf; omega
  · intro i hi hf; have := hlo _ hf; have := h.tab1.ge (b := T1.gr i) (.inr ⟨i, hi, rfl⟩); omega
end
theorem putW_snoc {α : Type} (mv : α → Int → Int → Nat → AnsG α) : ∀ (l : List StS) (a : α) (x : StS), putW mv a (l ++ [x]) = (mv (putW mv a l) 1 x.block x.val).a
  | [], _, _ => rfl
  | y :: r, a, x => putW_snoc mv r _ x
theorem mvP_lt {d : Nat} {a : ArP} (h : ∀ x y, a.1 x y < 256) (kind block : Int) {v : Nat} (hv : v < 256) : ∀ x y, (mvP d a kind block v).a.1 x y < 256 := fun x y => doMv_lt h d a.2 kind block v hv x y
theorem putW_lt {d : Nat} : ∀ (l : List StS) {a : ArP}, (∀ x y, a.1 x y < 256) → (∀ m ∈ l, m.val < 256) → ∀ x y, (putW (mvP d) a l).1 x y < 256
  | [], _, h, _ => h
  | m :: r, _, h, hl => putW_lt r (mvP_lt h 1 m.block (hl m (by simp))) (fun y hy => hl y (List.mem_cons_of_mem _ hy))
theorem mvP_write {d : Nat} (a : ArP) (b v : Nat) (hb : b < 24) : (mvP d a 1 (b : Int) v).a = (writeD a.1 a.2 d b v, a.2) := by
  unfold mvP doMv
  rw [if_neg (by omega), if_neg (by simp; omega)]
  simp
end Go.Proofs.Ytbhhijdpmpcdnaa

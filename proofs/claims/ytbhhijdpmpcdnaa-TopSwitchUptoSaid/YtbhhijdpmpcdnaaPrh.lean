/-
  quipuref.paired: frames for the line's steps and for what is put at the other site.
-/
import Derived.Test.YtbhhijdpmpcdnaaPrg
set_option linter.unusedVariables false
namespace Go.Proofs.Ytbhhijdpmpcdnaa
open Go.RowKit

theorem doS_pz (N mode s g p k : Nat) (z : Int) : (doS N mode s g p k z).p = if z = 4 ∧ p < g then p + 1 else p := by
  unfold doS
  by_cases h2 : z = 2
  · subst h2
    rw [if_pos rfl, if_neg (c := (2 : Int) = 4 ∧ p < g) (fun e => by omega)]
    split <;> rfl
  rw [if_neg h2]
  by_cases h3 : z = 3
  · subst h3
    rw [if_pos rfl, if_neg (c := (3 : Int) = 4 ∧ p < g) (fun e => by omega)]
    split <;> rfl
  rw [if_neg h3]
  by_cases h4 : z = 4
  · subst h4
    rw [if_pos rfl]
    by_cases h : g ≤ p
    · rw [if_pos h, if_neg (c := (4 : Int) = 4 ∧ p < g) (fun e => by omega)]
    · rw [if_neg h, if_pos (c := (4 : Int) = 4 ∧ p < g) ⟨rfl, by omega⟩]
  rw [if_neg h4, if_neg (c := z = 4 ∧ p < g) (fun e => h4 e.1)]
  by_cases h6 : z = 6
  · rw [if_pos h6]
  rw [if_neg h6]
  by_cases h5 : z = 5
  · rw [if_pos h5]
  · rw [if_neg h5]
section
variable {w w' : World} {B lb sg ob mode : Nat} {DV WV yV qV yV' qV' : Value} {S0 S1 : Ab} {t : PrT (List Nat × Int)} {F : Nat → Prop}
/-- the line stepped -/
theorem RefR.chDo {s' g' p' k' : Nat} (h : RefR w B lb sg ob DV WV yV qV mode S0 S1 t) (hl : LineR w' B lb WV yV' qV' mode s' g' p' k') (hc : Ch w w' (LineF lb yV qV)) : RefR w' B lb sg ob DV WV yV' qV' mode S0 S1 { t with s := s', g := g', p := p', k := k' } := by
  obtain ⟨p0, hp, hl0⟩ := h.line
  have hn : ∀ b cur E m, w.heap[b]? = some (.cells cur E m) → E ≠ 55 → E ≠ 3 → ¬ LineF lb yV qV b := fun b cur E m hb h1 h2 hf => by
    obtain ⟨cur', T', h3, h4⟩ := hl0.fTy hf
    rw [hb] at h3
    injection h3 with h3
    injection h3 with _ e
    subst e
    rcases h4 with h4 | h4
    · exact h1 h4
    · exact h2 h4
  obtain ⟨c0, e0⟩ := h.a0.gTy
  obtain ⟨c1, e1⟩ := h.a1.gTy
  exact ⟨⟨p', fun _ => rfl, hl⟩, h.wri.ch hc (fun b hb => by obtain ⟨c, e⟩ := h.wri.ty hb; exact hn _ _ _ _ e (by decide) (by decide)),
    h.a0.ch hc (hn _ _ _ _ h.a0.box (by decide) (by decide)) (hn _ _ _ _ e0 (by decide) (by decide)), h.a1.ch hc (hn _ _ _ _ h.a1.box (by decide) (by decide)) (hn _ _ _ _ e1 (by decide) (by decide)),
    h.sit.ch hc (hn _ _ _ _ h.sit (by decide) (by decide)), h.out.ch hc (hn _ _ _ _ h.out (by decide) (by decide)), h.ne, h.low, h.l0, h.l1⟩
/-- a write's cells, and the place where it is put at the other site -/
theorem RefR.putCells {A : Option Addr} {n c i b : Nat} {x : StS} (h : RefR w B lb sg ob DV (.slice A n c) yV qV mode S0 S1 t) (hx : t.ws[i]? = some x) (hb : x.block = (b : Int)) (h24 : b < 24) :
    ∃ ad, A = some ad ∧ i < n ∧ w.cell? ⟨sg, 1, none⟩ = some (.pointer (some ⟨S1.a, 0, none⟩)) ∧ w.cell? ⟨S1.a, 0, none⟩ = some (.slice (some ⟨S1.g, 0, none⟩) 24 24) ∧ w.cell? ⟨lb, 1, none⟩ = some (.slice (some ad) n c) ∧
      w.cell? ⟨(ad.add (i * 4)).block, (ad.add (i * 4)).off + 2, none⟩ = some (.int .i64 (b : Int)) ∧ w.cell? ⟨(ad.add (i * 4)).block, (ad.add (i * 4)).off + 3, none⟩ = some (.int .u8 (x.val : Int)) ∧
      (∃ o : Int, w.cell? ⟨S1.g, b, none⟩ = some (.int .u8 o)) ∧ w.frozen? ⟨S1.g, b, none⟩ = false := by
  have hn : n = t.ws.length := by
    obtain ⟨_, _, e⟩ := h.wri.form
    injection e with _ e _
    rw [e, List.length_map]
  have hi : i < n := by rw [hn]; exact (List.getElem?_eq_some_iff.1 hx).1
  obtain ⟨ad, xs, e, _, hx', _, hc⟩ := h.wri.reads.at_ hi
  rw [List.getElem?_map, hx] at hx'
  injection hx' with hx'
  subst hx'
  have d2 := hc 2 _ rfl
  have d3 := hc 3 _ rfl
  rw [add_offP _ _ _ (by decide)] at d2 d3
  rw [hb] at d2
  subst e
  obtain ⟨p, hp, hl⟩ := h.line
  have l24 := h.l1
  have o0 := h.a1.row.cellAt (j := b) h24
  have o1 := h.a1.row.frozenAt b
  rw [show (vn .u8 t.a1.1)[b]? = some (.int .u8 (t.a1.1[b] : Int)) by simp [vn, List.getElem?_eq_getElem (show b < t.a1.1.length by omega)]] at o0
  rw [add_row] at o0 o1
  exact ⟨ad, rfl, hi, h.sit.cell (j := 1) rfl, by simp [World.cell?, h.a1.box], hl.box.cell (j := 1) rfl, d2, d3, ⟨_, o0⟩, o1⟩
/-- a write was put at the other site -/
theorem RefR.put1 (h : RefR w B lb sg ob DV WV yV qV mode S0 S1 t) (b v : Nat) : RefR (w.setCell ⟨S1.g, b, none⟩ (.int .u8 (v : Int))) B lb sg ob DV WV yV qV mode S0 S1 { t with a1 := (t.a1.1.set b v, t.a1.2) } :=
  h.ch1 (a := (t.a1.1.set b v, t.a1.2)) (h.a1.set b v) ((Ch.refl _ _).setCell S1.g b _ (fun _ => .inr rfl)) (by simp [h.l1])
theorem RefR.put1Ch {w0 : World} {yV0 qV0 WV0 : Value} (hc : Ch w0 w (RefF lb ob WV0 yV0 qV0 S0 S1)) (b v : Nat) : Ch w0 (w.setCell ⟨S1.g, b, none⟩ (.int .u8 (v : Int))) (RefF lb ob WV0 yV0 qV0 S0 S1) :=
  hc.setCell S1.g b _ (fun _ => .inr (.inr (.inr (.inr (.inr (.inl rfl))))))
theorem RefR.put1Box {rb : Nat} {E : TypeId} {vs : List Value} (h : RefR w B lb sg ob DV WV yV qV mode S0 S1 t) (hr : BoxV w rb E vs) (hE : E ≠ 5) (b v : Nat) : BoxV (w.setCell ⟨S1.g, b, none⟩ (.int .u8 (v : Int))) rb E vs := by
  obtain ⟨cg, hcg⟩ := h.a1.gTy
  exact hr.setOther (c := S1.g) (j := b) _ (ty_ne hr hcg hE)
/-- a box of another type, when a line's steps were done -/
theorem RefR.doBox {rb : Nat} {E : TypeId} {vs : List Value} (h : RefR w B lb sg ob DV WV yV qV mode S0 S1 t) (hr : BoxV w rb E vs) (hc : Ch w w' (LineF lb yV qV)) (h1 : E ≠ 55) (h2 : E ≠ 3) : BoxV w' rb E vs := by
  obtain ⟨p, hp, hl⟩ := h.line
  exact hr.chLine hl hc h1 h2
/-- the answer's box is set -/
theorem RefR.setOut (h : RefR w B lb sg ob DV WV yV qV mode S0 S1 t) {j : Nat} {u DV' : Value} {told main : Nat} (he : [DV, Value.int .i64 (t.told : Int), Value.int .i64 (t.main : Int)].set j u = [DV', .int .i64 (told : Int), .int .i64 (main : Int)]) (hm : main = 0 → t.main = 0) : RefR (w.setCell ⟨ob, j, none⟩ u) B lb sg ob DV' WV yV qV mode S0 S1 { t with told := told, main := main } := by
  have hc : Ch w (w.setCell ⟨ob, j, none⟩ u) (fun b => b = ob) := (Ch.refl _ _).setCell ob j u (fun _ => rfl)
  obtain ⟨p, hp, hl⟩ := h.line
  have hn : ∀ b cur E m, w.heap[b]? = some (.cells cur E m) → E ≠ 25 → ¬ b = ob := fun b cur E m hb h1 => ty_ne hb h.out h1
  obtain ⟨c0, e0⟩ := h.a0.gTy
  obtain ⟨c1, e1⟩ := h.a1.gTy
  have ho := h.out.set j u
  rw [he] at ho
  exact ⟨⟨p, fun e => hp (hm e), hl.ch hc (hn _ _ _ _ hl.box (by decide)) (fun b hb => by obtain ⟨c, e⟩ := hl.way.ty hb; exact hn _ _ _ _ e (by decide)) (fun b hb => by obtain ⟨c, e⟩ := hl.waits.ty hb; exact hn _ _ _ _ e (by decide))⟩,
    h.wri.ch hc (fun b hb => by obtain ⟨c, e⟩ := h.wri.ty hb; exact hn _ _ _ _ e (by decide)),
    h.a0.ch hc (hn _ _ _ _ h.a0.box (by decide)) (hn _ _ _ _ e0 (by decide)), h.a1.ch hc (hn _ _ _ _ h.a1.box (by decide)) (hn _ _ _ _ e1 (by decide)),
    h.sit.ch hc (hn _ _ _ _ h.sit (by decide)), ho, h.ne, h.low, h.l0, h.l1⟩
end
theorem mvB_write {d : Nat} (a : List Nat × Int) (b v : Nat) (hb : b < 24) : (mvB d a 1 (b : Int) v).a = (a.1.set b v, a.2) := by
  unfold mvB mvR
  rw [if_neg (by omega), if_neg (by simp; omega), if_neg (by decide), if_neg (by decide), if_neg (by decide), Int.toNat_natCast]
theorem take_drop_one {α : Type} {l : List α} {p : Nat} {y : α} (h : l[p]? = some y) : (l.take (p + 1)).drop p = [y] := by
  obtain ⟨hp, rfl⟩ := List.getElem?_eq_some_iff.1 h
  rw [List.take_succ_eq_append_getElem hp, List.drop_append_of_le_length (by simp; omega)]
  simp
theorem take_drop_none {α : Type} (l : List α) (p : Nat) : (l.take p).drop p = [] := List.drop_eq_nil_of_le (by simp; omega)
end Go.Proofs.Ytbhhijdpmpcdnaa

/-
  quipuref.paired: a write was added to the line (the frame).
-/
import Derived.Test.YtbhhijdpmpcdnaaPre
set_option linter.unusedVariables false
namespace Go.Proofs.Ytbhhijdpmpcdnaa
open Go.RowKit

theorem RefR.push {w w' : World} {B lb sg ob mode : Nat} {DV WV WV' yV qV : Value} {S0 S1 : Ab} {t : PrT (List Nat × Int)} {x : StS} (h : RefR w B lb sg ob DV WV yV qV mode S0 S1 t) (ho : OwnQ w' B 35 4 WV' ((t.ws ++ [x]).map stC)) (hg : w.grownBy w' WV.ownBlock) : RefR (w'.setCell ⟨lb, 1, none⟩ WV') B lb sg ob DV WV' yV qV mode S0 S1 { t with ws := t.ws ++ [x] } := by
  have hc := Ch.of_grown hg
  obtain ⟨p, hp, hl⟩ := h.line
  have hl2 := hl.push (WV' := WV') (x := x) h.wri hg
  have hlb : BoxV w' lb 55 _ := hl.box.ch hc (fun e => h.wri.notBox hl.box (by decide) e)
  have hs : Ch w' (w'.setCell ⟨lb, 1, none⟩ WV') (fun b => b = lb) := (Ch.refl _ _).setCell lb 1 WV' (fun _ => rfl)
  have hall : Ch w (w'.setCell ⟨lb, 1, none⟩ WV') (fun b => WV.ownBlock = some b ∨ b = lb) := (hc.imp (fun _ _ e => .inl e)).trans hs (fun _ _ e => .inr e)
  have hn : ∀ b cur E m, w.heap[b]? = some (.cells cur E m) → E ≠ 35 → E ≠ 55 → ¬ (WV.ownBlock = some b ∨ b = lb) := fun b cur E m hb h1 h2 hf => by
    rcases hf with hf | hf
    · obtain ⟨c, e⟩ := h.wri.ty hf; exact ty_ne hb e h1 rfl
    · exact ty_ne hb hl.box h2 hf
  obtain ⟨c0, e0⟩ := h.a0.gTy
  obtain ⟨c1, e1⟩ := h.a1.gTy
  exact ⟨⟨p, hp, hl2⟩, ho.setOther _ _ (ho.notBox hlb (by decide)), h.a0.ch hall (hn _ _ _ _ h.a0.box (by decide) (by decide)) (hn _ _ _ _ e0 (by decide) (by decide)), h.a1.ch hall (hn _ _ _ _ h.a1.box (by decide) (by decide)) (hn _ _ _ _ e1 (by decide) (by decide)),
    h.sit.ch hall (hn _ _ _ _ h.sit (by decide) (by decide)), h.out.ch hall (hn _ _ _ _ h.out (by decide) (by decide)), h.ne, h.low, h.l0, h.l1⟩
end Go.Proofs.Ytbhhijdpmpcdnaa

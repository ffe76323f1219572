/-
  quipuref.paired: a write.
-/
import Derived.Test.YtbhhijdpmpcdnaaPrd
import Derived.Deep.OwnRows
set_option linter.unusedVariables false
namespace Go.Proofs.Ytbhhijdpmpcdnaa
open Go.RowKit

section
variable (B lb sg ob mode d : Nat) (DV WV yV qV : Value) (S0 S1 : Ab) (t : PrT (List Nat × Int)) (site : Int) (b v : Nat) (w : World)
set_option maxRecDepth 100000 in
set_option maxHeartbeats 4000000 in
theorem paired_write1 (h : RefR w B lb sg ob DV WV yV qV mode S0 S1 t) (hb : b < 24) (hm : t.main = 1) :
    Calls Try.prog 17 #[.pointer (some ⟨lb, 0, none⟩), .slice (some ⟨sg, 0, none⟩) 2 2, .pointer (some ⟨ob, 0, none⟩), .int .i64 (d : Int), stV ⟨1, site, (b : Int), v⟩] w (RefP w B lb sg ob DV WV yV qV mode S0 S1 t (stepG (mvB d) mode d t ⟨1, site, (b : Int), v⟩)) := by
  have hG : stepG (mvB d) mode d t ⟨1, site, (b : Int), v⟩ = { t with outs := t.outs ++ [(0, 0)], a1 := (t.a1.1.set b v, t.a1.2) } := by
    unfold stepG; rw [if_neg (by simp), if_pos rfl]; unfold wrG; rw [if_neg (by simp; omega), if_neg (by omega)]
    have : (mvB d t.a1 1 (b : Int) v).a = (t.a1.1.set b v, t.a1.2) := by
      unfold mvB mvR
      rw [if_neg (by omega), if_neg (by simp; omega), if_neg (by decide), if_neg (by decide), if_neg (by decide), Int.toNat_natCast]
    simp only [this]
  rw [hG]
  unfold stV
  simp only
  have hbx : BoxV (w.alloc (.cells #[.int .i64 1, .int .i64 site, .int .i64 (b : Int), .int .u8 (v : Int)] 35)) w.heap.size 35 [Value.int .i64 1, .int .i64 site, .int .i64 (b : Int), .int .u8 (v : Int)] := BoxV.new w _ _
  have hbA := hbx.alloc (.cells #[.int .i64 0, .int .u8 0] 37)
  have x0 := hbA.cell (j := 0) rfl; have x2 := hbA.cell (j := 2) rfl; have x3 := hbA.cell (j := 3) rfl
  have hA0 := (h.alloc (.cells #[.int .i64 1, .int .i64 site, .int .i64 (b : Int), .int .u8 (v : Int)] 35)).alloc (.cells #[.int .i64 0, .int .u8 0] 37)
  have om := hA0.out.cell (j := 2) rfl
  rw [hm] at om
  have s1 := hA0.sit.cell (j := 1) rfl
  have a1 : ((w.alloc (.cells #[.int .i64 1, .int .i64 site, .int .i64 (b : Int), .int .u8 (v : Int)] 35)).alloc (.cells #[.int .i64 0, .int .u8 0] 37)).cell? ⟨S1.a, 0, none⟩ = some (.slice (some ⟨S1.g, 0, none⟩) 24 24) := by simp [World.cell?, hA0.a1.box]
  have l24 := h.l1
  obtain ⟨o, ho⟩ : ∃ o : Nat, t.a1.1[b]? = some o := ⟨_, List.getElem?_eq_getElem (by omega)⟩
  have o0 := hA0.a1.row.cellAt (j := b) hb
  have o1 := hA0.a1.row.frozenAt b
  rw [show (vn .u8 t.a1.1)[b]? = some (.int .u8 (o : Int)) by simp [vn, ho]] at o0
  rw [add_row] at o0 o1
  have hrb : BoxV ((w.alloc (.cells #[.int .i64 1, .int .i64 site, .int .i64 (b : Int), .int .u8 (v : Int)] 35)).alloc (.cells #[.int .i64 0, .int .u8 0] 37)) (w.heap.size + 1) 37 [.int .i64 0, .int .u8 0] := by
    have := BoxV.new (w.alloc (.cells #[.int .i64 1, .int .i64 site, .int .i64 (b : Int), .int .u8 (v : Int)] 35)) [.int .i64 0, .int .u8 0] 37
    simpa using this
  have hC : Ch w ((w.alloc (.cells #[.int .i64 1, .int .i64 site, .int .i64 (b : Int), .int .u8 (v : Int)] 35)).alloc (.cells #[.int .i64 0, .int .u8 0] 37)) (RefF lb ob WV yV qV S0 S1) := ((Ch.refl _ _).alloc _).alloc _
  have i1 : ¬ (b : Int) < 0 := by omega
  have i2 : ¬ 24 ≤ (b : Int) := by omega
  have HA := Lib.hid hA0
  have HC := Lib.hid hC
  have HRB := Lib.hid hrb
  have HM := Lib.hid hm
  clear h hG hbx hbA hA0 hrb hC ho hm
  go_enter Try.func17, Try.ntmps17
  go_wp2
  go_region
  clear x0 x2 x3 om s1 a1 o0 o1
  have hcs : Ch ((w.alloc (.cells #[.int .i64 1, .int .i64 site, .int .i64 (b : Int), .int .u8 (v : Int)] 35)).alloc (.cells #[.int .i64 0, .int .u8 0] 37)) (((w.alloc (.cells #[.int .i64 1, .int .i64 site, .int .i64 (b : Int), .int .u8 (v : Int)] 35)).alloc (.cells #[.int .i64 0, .int .u8 0] 37)).setCell ⟨S1.g, b, none⟩ (.int .u8 (v : Int))) (fun q => q = S1.a ∨ q = S1.g) := (Ch.refl _ _).setCell S1.g b _ (fun _ => .inr rfl)
  have hp := (HA.out.ch1 (a := (t.a1.1.set b v, t.a1.2)) (HA.out.a1.set b v) hcs (by simp [l24])).drewN 1
  have hc := ((HC.out.trans hcs (fun q _ e => by rcases e with e | e; exact .inr (.inr (.inr (.inr (.inl e)))); exact .inr (.inr (.inr (.inr (.inr (.inl e))))))).drewN 1)
  obtain ⟨cg, hcg⟩ := HA.out.a1.gTy
  have hr : BoxV ((((w.alloc (.cells #[.int .i64 1, .int .i64 site, .int .i64 (b : Int), .int .u8 (v : Int)] 35)).alloc (.cells #[.int .i64 0, .int .u8 0] 37)).setCell ⟨S1.g, b, none⟩ (.int .u8 (v : Int))).drewN 1) (w.heap.size + 1) 37 [.int .i64 0, .int .u8 0] := (HRB.out.setOther (c := S1.g) (j := b) _ (Ne.symm (ty_ne hcg HRB.out (by decide)))).drewN 1
  obtain ⟨W, hW⟩ : ∃ x, x = (((w.alloc (.cells #[.int .i64 1, .int .i64 site, .int .i64 (b : Int), .int .u8 (v : Int)] 35)).alloc (.cells #[.int .i64 0, .int .u8 0] 37)).setCell ⟨S1.g, b, none⟩ (.int .u8 (v : Int))).drew := ⟨_, rfl⟩
  have hWe : (((w.alloc (.cells #[.int .i64 1, .int .i64 site, .int .i64 (b : Int), .int .u8 (v : Int)] 35)).alloc (.cells #[.int .i64 0, .int .u8 0] 37)).setCell ⟨S1.g, b, none⟩ (.int .u8 (v : Int))).drewN 1 = W := by rw [hW]; rfl
  rw [hWe] at hp hc hr
  rw [← hW]
  clear hW hWe hcs hcg HA HC HRB
  have om := hp.out.cell (j := 2) rfl
  rw [show (Value.int .i64 (t.main : Int)) = .int .i64 1 by rw [HM.out]; rfl] at om
  have r0 := hr.cell (j := 0) rfl; have r1 := hr.cell (j := 1) rfl; have r2 := hr.free 0; have r3 := hr.free 1
  have HP := Lib.hid hp; have HC := Lib.hid hc; have HR := Lib.hid hr
  clear hp hc hr
  go_wp2_with fail
  have hB1 := HR.out.set 0 (.int .i64 0)
  have hB2 := hB1.set 1 (.int .u8 0)
  have F0 := hB2.cell (j := 0) rfl; have F1 := hB2.cell (j := 1) rfl
  refine bodyPost_ret (v := .agg #[.int .i64 0, .int .u8 0]) (by simp [results, Try.f17, go_sem, F0, F1]) rfl ?_
  exact ⟨0, 0, WV, yV, qV, rfl, rfl, ((HP.out.setDone HR.out _).setDone hB1 _).outs _, (HC.out.setNew (by omega) _).setNew (by omega) _⟩
end
end Go.Proofs.Ytbhhijdpmpcdnaa

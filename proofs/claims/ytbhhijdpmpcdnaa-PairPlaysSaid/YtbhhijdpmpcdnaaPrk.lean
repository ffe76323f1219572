/-
  quipuref.paired: any step.
-/
import Derived.Test.YtbhhijdpmpcdnaaPri
import Derived.Test.YtbhhijdpmpcdnaaPrj
import Derived.Test.YtbhhijdpmpcdnaaPrc
import Derived.Test.YtbhhijdpmpcdnaaAppk
set_option linter.unusedVariables false
namespace Go.Proofs.Ytbhhijdpmpcdnaa
open Go.RowKit

section
variable (B lb sg ob mode d : Nat) (DV WV yV qV : Value) (S0 S1 : Ab) (t : PrT (List Nat × Int)) (x : StS) (w : World)
theorem ref_paired (h : RefR w B lb sg ob DV WV yV qV mode S0 S1 t) (n : Nat) (hok : PrOk t n) (hn : n < 1000) :
    Calls Try.prog 17 #[.pointer (some ⟨lb, 0, none⟩), .slice (some ⟨sg, 0, none⟩) 2 2, .pointer (some ⟨ob, 0, none⟩), .int .i64 (d : Int), stV x] w (RefP w B lb sg ob DV WV yV qV mode S0 S1 t (stepG (mvB d) mode d t x)) := by
  have q1 := hok.le1; have q2 := hok.le2; have q3 := hok.le3; have q4 := hok.le4
  by_cases k0 : x.kind < 1 ∨ 10 < x.kind
  · exact paired_kind B lb sg ob mode d DV WV yV qV S0 S1 t x w h k0
  obtain ⟨WA, c1, hWV⟩ := h.wri.form
  rw [List.length_map] at hWV
  by_cases k1 : x.kind = 1
  · by_cases hb : x.block < 0 ∨ 24 ≤ x.block
    · exact paired_wbad B lb sg ob mode d DV WV yV qV S0 S1 t x w h k1 hb
    · obtain ⟨kind, site, block, v⟩ := x
      simp only at k1 hb
      subst k1
      obtain ⟨b, rfl⟩ : ∃ b : Nat, block = (b : Int) := ⟨block.toNat, by omega⟩
      rcases hok.mn with hm | hm
      · exact paired_write0 B lb sg ob mode d DV WV yV qV S0 S1 t site b v w h (by omega) hm (by omega)
      · exact paired_write1 B lb sg ob mode d DV WV yV qV S0 S1 t site b v w h (by omega) hm
  by_cases k10 : x.kind = 10
  · rcases hok.mn with hm | hm
    · obtain ⟨kind, site, block, v⟩ := x
      simp only at k10
      subst k10
      subst hWV
      exact paired_switch B lb sg ob mode d c1 DV yV qV WA S0 S1 t site block v w h hm (by omega) q1 q2 q3 hok.wb
    · exact paired_hold B lb sg ob mode d DV WV yV qV S0 S1 t x w h (.inr k10) hm
  by_cases k7 : 7 ≤ x.kind
  · obtain ⟨kind, site, block, v⟩ := x
    simp only at k0 k1 k7 k10
    have hmn := hok.mn
    rcases (by omega : kind = 7 ∨ kind = 8 ∨ kind = 9) with rfl | rfl | rfl
    · by_cases hb : site < t.main ∨ 1 < site ∨ block < 0 ∨ (d : Int) ≤ block
      · exact paired_no7 B lb sg ob mode d DV WV yV qV S0 S1 t site block v w h hb
      · obtain ⟨b, rfl⟩ : ∃ b : Nat, block = (b : Int) := ⟨block.toNat, by omega⟩
        rcases (by omega : site = 0 ∨ site = 1) with rfl | rfl
        · exact paired_at7_0 B lb sg ob mode d DV WV yV qV S0 S1 t b v w h (by omega) (by omega)
        · exact paired_at7_1 B lb sg ob mode d DV WV yV qV S0 S1 t b v w h (by omega) (by omega)
    · by_cases hb : site < t.main ∨ 1 < site ∨ block < 0 ∨ (d : Int) ≤ block
      · exact paired_no8 B lb sg ob mode d DV WV yV qV S0 S1 t site block v w h hb
      · obtain ⟨b, rfl⟩ : ∃ b : Nat, block = (b : Int) := ⟨block.toNat, by omega⟩
        rcases (by omega : site = 0 ∨ site = 1) with rfl | rfl
        · exact paired_at8_0 B lb sg ob mode d DV WV yV qV S0 S1 t b v w h (by omega) (by omega)
        · exact paired_at8_1 B lb sg ob mode d DV WV yV qV S0 S1 t b v w h (by omega) (by omega)
    · by_cases hb : site < t.main ∨ 1 < site ∨ block < 0 ∨ 24 ≤ block
      · exact paired_no9 B lb sg ob mode d DV WV yV qV S0 S1 t site block v w h hb
      · obtain ⟨b, rfl⟩ : ∃ b : Nat, block = (b : Int) := ⟨block.toNat, by omega⟩
        rcases (by omega : site = 0 ∨ site = 1) with rfl | rfl
        · exact paired_at9_0 B lb sg ob mode d DV WV yV qV S0 S1 t b v w h (by omega) (by omega)
        · exact paired_at9_1 B lb sg ob mode d DV WV yV qV S0 S1 t b v w h (by omega) (by omega)
  · rcases hok.mn with hm | hm
    · obtain ⟨z, site, block, v⟩ := x
      simp only at k0 k1 k7 k10
      subst hWV
      by_cases k4 : z = 4 ∧ t.p < t.g
      · exact paired_line_put B lb sg ob mode d c1 DV yV qV WA S0 S1 t z site block v w h hm (by omega) (by omega) (by omega) q1 q2 q3 k4 hok.wb
      · exact paired_line_no B lb sg ob mode d c1 DV yV qV WA S0 S1 t z site block v w h hm (by omega) (by omega) (by omega) q1 q2 q3 k4
    · exact paired_hold B lb sg ob mode d DV WV yV qV S0 S1 t x w h (.inl (by omega)) hm
end
end Go.Proofs.Ytbhhijdpmpcdnaa

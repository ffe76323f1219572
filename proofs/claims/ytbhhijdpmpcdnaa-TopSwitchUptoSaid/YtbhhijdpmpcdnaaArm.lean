/-
  (*quipuref.Array).move.
-/
import Derived.Test.YtbhhijdpmpcdnaaProg
import Derived.Test.YtbhhijdpmpcdnaaOwn
import Derived.Test.YtbhhijdpmpcdnaaStore
import Derived.Test.YtbhhijdpmpcdnaaStep
set_option linter.unusedVariables false
namespace Go.Proofs.Ytbhhijdpmpcdnaa
open Go.RowKit

/-- block ab holds an array: its blocks lie at g, one disc is lost or none -/
structure ArrB (w : World) (base ab g : Nat) (bl : List Nat) (z : Int) : Prop where
  box : w.heap[ab]? = some (.cells #[.slice (some ⟨g, 0, none⟩) 24 24, .int .i64 z] 58 (0, 0))
  row : Own w base 5 (.slice (some ⟨g, 0, none⟩) 24 24) (vn .u8 bl)
  ne : ab ≠ g
theorem ArrB.set {w : World} {base ab g : Nat} {bl : List Nat} {z : Int} (h : ArrB w base ab g bl z) (b v : Nat) : ArrB (w.setCell ⟨g, b, none⟩ (.int .u8 (v : Int))) base ab g (bl.set b v) z := by
  refine ⟨?_, ?_, h.ne⟩
  · rw [Below.heap_setCell w _ _ _ h.ne]; exact h.box
  · have := h.row.set b (.int .u8 (v : Int))
    rw [add_row] at this
    unfold vn at this ⊢
    rw [List.map_set]
    exact this
theorem ArrB.lose {w : World} {base ab g : Nat} {bl : List Nat} {z : Int} (h : ArrB w base ab g bl z) (y : Int) : ArrB (w.setCell ⟨ab, 1, none⟩ (.int .i64 y)) base ab g bl y := by
  refine ⟨?_, h.row.setOther _ _ (by have := h.ne; simp [Value.ownBlock]; omega), h.ne⟩
  simp [World.setCell, Array.getElem?_modify, h.box]
/-- only the array has changed -/
def ArrP (w : World) (base ab g : Nat) (v e : Nat) (bl : List Nat) (z : Int) (en : Ending) (w' : World) : Prop :=
  en = .returned (.tuple #[.int .u8 (v : Int), .int .i64 (e : Int)]) ∧ ArrB w' base ab g bl z ∧ w'.os = w.os ∧ w'.tape = w.tape ∧ w'.output = w.output ∧ w'.heap.size = w.heap.size ∧ ∀ b, b ≠ ab → b ≠ g → w'.heap[b]? = w.heap[b]?
section
variable (base ab g : Nat) (bl : List Nat) (z : Int) (w : World) (h : ArrB w base ab g bl z)
include h
set_option maxHeartbeats 800000 in
theorem ref_move1 (b v : Nat) (hb : b < 24) :
    Calls Try.prog 25 #[.pointer (some ⟨ab, 0, none⟩), .int .i64 1, .int .i64 (b : Int), .int .u8 (v : Int)] w (ArrP w base ab g 0 0 (bl.set b v) z) := by
  have c0 : w.cell? ⟨ab, 0, none⟩ = some (.slice (some ⟨g, 0, none⟩) 24 24) := by simp [World.cell?, h.box]
  have hl : bl.length = 24 := h.row.reads.nat_len
  have c2 := h.row.cell (j := b) (u := .int .u8 (bl.getD b 0 : Nat)) (by unfold vn; rw [List.getElem?_map, List.getElem?_eq_getElem (by omega), List.getD_eq_getElem?_getD, List.getElem?_eq_getElem (by omega)]; rfl)
  have c3 := h.row.frozenAt b
  rw [add_row] at c2 c3
  have HS := Lib.hid (h.set b v)
  have i0 : (0 : Int) ≤ (b : Int) := by omega
  have i1 : (b : Int) < 24 := by omega
  clear h hl
  go_enter Try.func25, Try.ntmps25
  go_wp2
  go_ret2
  exact ⟨rfl, HS.out, rfl, rfl, rfl, by simp, fun x _ hx => Below.heap_setCell w _ _ x (fun e => hx (by rw [e]))⟩
set_option maxHeartbeats 800000 in
theorem ref_move2 (b v : Nat) (hb : b < 24) :
    Calls Try.prog 25 #[.pointer (some ⟨ab, 0, none⟩), .int .i64 2, .int .i64 (b : Int), .int .u8 (v : Int)] w (ArrP w base ab g (bl.getD b 0) 0 bl z) := by
  have c0 : w.cell? ⟨ab, 0, none⟩ = some (.slice (some ⟨g, 0, none⟩) 24 24) := by simp [World.cell?, h.box]
  have hl : bl.length = 24 := h.row.reads.nat_len
  have c2 := h.row.cell (j := b) (u := .int .u8 (bl.getD b 0 : Nat)) (by unfold vn; rw [List.getElem?_map, List.getElem?_eq_getElem (by omega), List.getD_eq_getElem?_getD, List.getElem?_eq_getElem (by omega)]; rfl)
  rw [add_row] at c2
  have HS := Lib.hid h
  have i0 : (0 : Int) ≤ (b : Int) := by omega
  have i1 : (b : Int) < 24 := by omega
  clear h hl
  generalize bl.getD b 0 = y at *
  go_enter Try.func25, Try.ntmps25
  go_wp2
  go_ret2
  exact ⟨rfl, HS.out, rfl, rfl, rfl, rfl, fun x _ _ => rfl⟩
set_option maxHeartbeats 800000 in
theorem ref_move3 (b v : Nat) :
    Calls Try.prog 25 #[.pointer (some ⟨ab, 0, none⟩), .int .i64 3, .int .i64 (b : Int), .int .u8 (v : Int)] w (ArrP w base ab g 0 (if 0 ≤ z then 7 else 0) bl (if 0 ≤ z then z else (b : Int))) := by
  have c1 : w.cell? ⟨ab, 1, none⟩ = some (.int .i64 z) := by simp [World.cell?, h.box]
  have f1 : w.frozen? ⟨ab, 1, none⟩ = false := by simp [World.frozen?, h.box]
  have HS := Lib.hid h
  have HL := Lib.hid (h.lose (b : Int))
  clear h
  by_cases hz : 0 ≤ z
  · rw [if_pos hz, if_pos hz]
    have k1 : ¬ z < 0 := by omega
    go_enter Try.func25, Try.ntmps25
    go_wp2
    go_ret2
    exact ⟨rfl, HS.out, rfl, rfl, rfl, rfl, fun x _ _ => rfl⟩
  · rw [if_neg hz, if_neg hz]
    have k1 : z < 0 := by omega
    go_enter Try.func25, Try.ntmps25
    go_wp2
    go_ret2
    exact ⟨rfl, HL.out, rfl, rfl, rfl, by simp, fun x hx _ => Below.heap_setCell w _ _ x (fun e => hx (by rw [e]))⟩
set_option maxHeartbeats 800000 in
theorem ref_move4 (b v : Nat) :
    Calls Try.prog 25 #[.pointer (some ⟨ab, 0, none⟩), .int .i64 4, .int .i64 (b : Int), .int .u8 (v : Int)] w (ArrP w base ab g 0 (if (b : Int) = z then 0 else 7) bl (if (b : Int) = z then -1 else z)) := by
  have c1 : w.cell? ⟨ab, 1, none⟩ = some (.int .i64 z) := by simp [World.cell?, h.box]
  have f1 : w.frozen? ⟨ab, 1, none⟩ = false := by simp [World.frozen?, h.box]
  have HS := Lib.hid h
  have HL := Lib.hid (h.lose (-1))
  clear h
  by_cases hz : (b : Int) = z
  · rw [if_pos hz, if_pos hz]
    have k1 : (z == (b : Int)) = true := by simp [hz]
    clear hz
    go_enter Try.func25, Try.ntmps25
    go_wp2
    go_ret2
    exact ⟨rfl, HL.out, rfl, rfl, rfl, by simp, fun x hx _ => Below.heap_setCell w _ _ x (fun e => hx (by rw [e]))⟩
  · rw [if_neg hz, if_neg hz]
    have k1 : (z == (b : Int)) = false := by simpa using fun e => hz e.symm
    clear hz
    go_enter Try.func25, Try.ntmps25
    go_wp2
    go_ret2
    exact ⟨rfl, HS.out, rfl, rfl, rfl, rfl, fun x _ _ => rfl⟩
end
end Go.Proofs.Ytbhhijdpmpcdnaa

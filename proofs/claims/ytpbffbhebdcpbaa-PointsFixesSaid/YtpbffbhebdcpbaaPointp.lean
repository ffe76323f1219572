import Derived.Test.YtpbffbhebdcpbaaPoint
import Derived.Test.YtpbffbhebdcpbaaInts
set_option linter.unusedVariables false
namespace Go.Proofs.Ytpbffbhebdcpbaa
open Go.RowKit

def ptL (l : List Nat) (m : Nat) : List Nat := (List.range m).map fun i => horn (i + 1) l
theorem ptL_next (l : List Nat) (k : Nat) : vn .i64 (ptL l k) ++ [.int .i64 (horn (k + 1) l : Int)] = vn .i64 (ptL l (k + 1)) := by
  unfold ptL vn; simp [List.range_succ]
theorem ptL_len (l : List Nat) (k : Nat) : (vn .i64 (ptL l k)).length = k := by simp [ptL, vn]
set_option maxHeartbeats 600000 in
theorem points_put (m : Nat) (A : Option Addr) (n c : Nat) (l : List Nat) (w : World) (hm : m ≤ 9) (h : Reads w w.heap.size A n (vn .i64 l)) (hn : n ≤ 1000) (hl : ∀ z ∈ l, z < 16) :
    Calls Try.prog 33 #[.int .i64 (m : Int), .slice A n c] w (RetS w 3 (vn .i64 (ptL l m))) := by
  have cv := fun (x : Nat) (w2 : World) (hb : Below w.heap.size w w2) (hx : x < 16) => field_Value A n c l x w2 ((h.below hb).more hb.size) (by omega) hl hx
  go_enter Try.func33, Try.ntmps33
  go_wp2
  go_loopw [5, 6] (fun v i wr => ∃ k : Nat, k ≤ m ∧ i = .int .i64 ((k + 1 : Nat) : Int) ∧ Own wr w.heap.size 3 v (vn .i64 (ptL l k)) ∧ Below w.heap.size w wr) (fun _ i _ => m + 1 - (intOf i).toNat)
  case atStart => exact ⟨0, by omega, rfl, Own.nil _ _ _, Below.refl _ _⟩
  case round =>
    obtain ⟨k, hk, rfl, hown, hbel⟩ := hrel
    have HL := Lib.hid (ptL_len l k)
    by_cases hlt : k < m
    · have c1 := cv (k + 1) wr hbel (by omega)
      have HN := Lib.hid (ptL_next l k)
      clear cv
      generalize horn (k + 1) l = y at *
      have i1 : ((k + 1 : Nat) : Int) ≤ (m : Int) := by omega
      go_wp2_with (first | (go_at_call 53; refine c1.mono ?_; clear c1; rintro e w1 ⟨rfl, hb1⟩; have hown1 := hown.below hb1 (Nat.le_refl _); have hbel1 := hbel.trans (hb1.mono hbel.size)) | (at_builtin; refine app1 el_intP rfl _ _ rfl rfl hown1 _ _ rfl rfl (by rw [HL.out]; unfold maxLen; omega) (by rw [HL.out]; omega) hbel1.size ?_; intro v2 w2 ho2 hb2 _ _))
      go_roundw
      case rel => exact ⟨k + 1, by omega, by go_num, by rw [HN.out] at ho2; exact ho2, hbel1.trans hb2⟩
      case measure => simp [intOf]; omega
    · obtain rfl : k = m := by omega
      have i1 : ¬ ((k + 1 : Nat) : Int) ≤ (k : Int) := by omega
      obtain ⟨A2, c2, e⟩ := hown.form
      rw [HL.out] at e
      subst e
      go_wp2
      go_ret
      exact ⟨A2, _, c2, rfl, hown, hbel⟩
set_option maxHeartbeats 600000 in
theorem ref_Values (m : Nat) (A : Option Addr) (n c : Nat) (l : List Nat) (w : World) (hm : m ≤ 9) (h : Reads w w.heap.size A n (vn .i64 l)) (hn : n ≤ 1000) (hl : ∀ z ∈ l, z < 16) :
    Calls Try.prog 57 #[.int .i64 (m : Int), .slice A n c] w (RetS w 3 (vn .i64 (ptL l m))) := by
  have cv := fun (x : Nat) (w2 : World) (hb : Below w.heap.size w w2) (hx : x < 16) => ref_Value A n c l x w2 (h.below hb) (by omega) hl hx
  go_enter Try.func57, Try.ntmps57
  go_wp2
  go_loopw [5, 6] (fun v i wr => ∃ k : Nat, k ≤ m ∧ i = .int .i64 ((k + 1 : Nat) : Int) ∧ Own wr w.heap.size 3 v (vn .i64 (ptL l k)) ∧ Below w.heap.size w wr) (fun _ i _ => m + 1 - (intOf i).toNat)
  case atStart => exact ⟨0, by omega, rfl, Own.nil _ _ _, Below.refl _ _⟩
  case round =>
    obtain ⟨k, hk, rfl, hown, hbel⟩ := hrel
    have HL := Lib.hid (ptL_len l k)
    by_cases hlt : k < m
    · have c1 := cv (k + 1) wr hbel (by omega)
      have HN := Lib.hid (ptL_next l k)
      have hsz := hbel.size
      clear cv
      generalize horn (k + 1) l = y at *
      have i1 : ((k + 1 : Nat) : Int) ≤ (m : Int) := by omega
      go_wp2_with (first | (go_at_call 55; refine c1.mono ?_; clear c1; rintro e w1 ⟨rfl, rfl⟩) | (at_builtin; refine app1 el_intP rfl _ _ rfl rfl hown _ _ rfl rfl (by rw [HL.out]; unfold maxLen; omega) (by rw [HL.out]; omega) hsz ?_; intro v2 w2 ho2 hb2 _ _))
      go_roundw
      case rel => exact ⟨k + 1, by omega, by go_num, by rw [HN.out] at ho2; exact ho2, hbel.trans hb2⟩
      case measure => simp [intOf]; omega
    · obtain rfl : k = m := by omega
      have i1 : ¬ ((k + 1 : Nat) : Int) ≤ (k : Int) := by omega
      obtain ⟨A2, c2, e⟩ := hown.form
      rw [HL.out] at e
      subst e
      go_wp2
      go_ret
      exact ⟨A2, _, c2, rfl, hown, hbel⟩
def ptErr (nb : Int) (l : List Int) (n : Nat) : Int := if nb < 0 ∨ 9 < nb then 1 else if n = 0 ∨ nb < n then 3 else fldErr l
end Go.Proofs.Ytpbffbhebdcpbaa

/-
  What the law ShipPlays calls besides: its check of the mode, the comparison, the refusals.
-/
import Derived.Test.YtglcljlafioleaaShst
import Derived.Test.YtglcljlafioleaaCodesEq
import Derived.Test.YtglcljlafioleaaBytesEq
set_option linter.unusedVariables false
namespace Go.Proofs.Ytglcljlafioleaa
open Go.RowKit

def modeErr (mode : Int) : Int := if mode < 1 ∨ 3 < mode then 6 else 0
theorem law_modeCheck (mode z : Int) (w : World) (h : Hid (modeErr mode = z)) : Calls Try.prog 21 #[.int .i64 mode] w (Ret w (.int .i64 z)) := by
  by_cases h1 : mode < 1
  · obtain rfl : z = 6 := by rw [← h.out]; unfold modeErr; rw [if_pos (.inl h1)]
    clear h
    go_enter Try.func21, Try.ntmps21
    go_wp2
    go_ret
    exact ⟨rfl, rfl⟩
  by_cases h3 : 3 < mode
  · obtain rfl : z = 6 := by rw [← h.out]; unfold modeErr; rw [if_pos (.inr h3)]
    clear h
    go_enter Try.func21, Try.ntmps21
    go_wp2
    go_ret
    exact ⟨rfl, rfl⟩
  · obtain rfl : z = 0 := by rw [← h.out]; unfold modeErr; rw [if_neg (by omega)]
    clear h
    go_enter Try.func21, Try.ntmps21
    go_wp2
    go_ret
    exact ⟨rfl, rfl⟩
set_option maxHeartbeats 800000 in
theorem ship_Play_no (mode : Int) (A : Option Addr) (n c : Nat) (w : World) (h : mode < 1 ∨ 3 < mode) :
    Calls Try.prog 20 #[.int .i64 mode, .slice A n c] w (fun e w' => e = .returned (.tuple #[.agg #[.slice none 0 0, .int .i64 0, .int .i64 0, .int .i64 0, .slice none 0 0, .slice none 0 0], .int .i64 6]) ∧ Below w.heap.size w w') := by
  by_cases h1 : mode < 1
  · clear h
    go_enter Try.func20, Try.ntmps20
    go_wp2
    refine bodyPost_ret (v := .tuple #[.agg #[.slice none 0 0, .int .i64 0, .int .i64 0, .int .i64 0, .slice none 0 0, .slice none 0 0], .int .i64 6]) (by simp [results, Try.f20, go_sem]) rfl ⟨rfl, ?_⟩
    exact (Below.refl _ _).alloc (Nat.le_refl _) _
  · have h3 : 3 < mode := by omega
    clear h
    go_enter Try.func20, Try.ntmps20
    go_wp2
    refine bodyPost_ret (v := .tuple #[.agg #[.slice none 0 0, .int .i64 0, .int .i64 0, .int .i64 0, .slice none 0 0, .slice none 0 0], .int .i64 6]) (by simp [results, Try.f20, go_sem]) rfl ⟨rfl, ?_⟩
    exact (Below.refl _ _).alloc (Nat.le_refl _) _
set_option maxHeartbeats 800000 in
theorem ship_Play_far (mode : Int) (A : Option Addr) (n c : Nat) (w : World) (h1 : 1 ≤ mode) (h3 : mode ≤ 3) (hn : 100 < n) :
    Calls Try.prog 20 #[.int .i64 mode, .slice A n c] w (fun e w' => e = .returned (.tuple #[.agg #[.slice none 0 0, .int .i64 0, .int .i64 0, .int .i64 0, .slice none 0 0, .slice none 0 0], .int .i64 1]) ∧ Below w.heap.size w w') := by
  have i0 : (100 : Int) < (n : Int) := by omega
  have i1 : ¬ mode < 1 := by omega
  have i3 : ¬ 3 < mode := by omega
  go_enter Try.func20, Try.ntmps20
  go_wp2
  refine bodyPost_ret (v := .tuple #[.agg #[.slice none 0 0, .int .i64 0, .int .i64 0, .int .i64 0, .slice none 0 0, .slice none 0 0], .int .i64 1]) (by simp [results, Try.f20, go_sem]) rfl ⟨rfl, ?_⟩
  exact (Below.refl _ _).alloc (Nat.le_refl _) _
set_option maxHeartbeats 800000 in
theorem ref_Ships (A A' M M' O O' : Option Addr) (n c c' m mc mc' oc oc' : Nat) (codes main other : List Nat) (told g p : Int) (w : World)
    (h1 : Reads w w.heap.size A n (vn .i64 codes)) (h1' : Reads w w.heap.size A' n (vn .i64 codes)) (h2 : Reads w w.heap.size M m (vn .u8 main)) (h2' : Reads w w.heap.size M' m (vn .u8 main)) (h3 : Reads w w.heap.size O m (vn .u8 other)) (h3' : Reads w w.heap.size O' m (vn .u8 other)) (hn : n ≤ 100) (hm : m ≤ 8) :
    Calls Try.prog 23 #[.agg #[.slice A n c, .int .i64 told, .int .i64 g, .int .i64 p, .slice M m mc, .slice O m oc], .agg #[.slice A' n c', .int .i64 told, .int .i64 g, .int .i64 p, .slice M' m mc', .slice O' m oc']] w (LawTrue w) := by
  have k1 := fun (W : World) (hW : Below w.heap.size w W) => ref_Codes A A' n n c c' codes codes true W (h1.below hW) (h1'.below hW) (by unfold maxLen; omega) (by simp [Hid])
  have k2 := fun (W : World) (hW : Below w.heap.size w W) => ref_Bytes M M' m m mc mc' main main true W (h2.below hW) (h2'.below hW) (by unfold maxLen; omega) (by simp [Hid])
  have k3 := fun (W : World) (hW : Below w.heap.size w W) => ref_Bytes O O' m m oc oc' other other true W (h3.below hW) (h3'.below hW) (by unfold maxLen; omega) (by simp [Hid])
  have hb1 : BoxV (w.alloc (.cells #[.slice A n c, .int .i64 told, .int .i64 g, .int .i64 p, .slice M m mc, .slice O m oc] 48)) w.heap.size 48 [.slice A n c, .int .i64 told, .int .i64 g, .int .i64 p, .slice M m mc, .slice O m oc] := BoxV.new w _ _
  have hb2 := hb1.alloc (.cells #[.slice A' n c', .int .i64 told, .int .i64 g, .int .i64 p, .slice M' m mc', .slice O' m oc'] 48)
  have hb3 : BoxV ((w.alloc (.cells #[.slice A n c, .int .i64 told, .int .i64 g, .int .i64 p, .slice M m mc, .slice O m oc] 48)).alloc (.cells #[.slice A' n c', .int .i64 told, .int .i64 g, .int .i64 p, .slice M' m mc', .slice O' m oc'] 48)) (w.heap.size + 1) 48 [.slice A' n c', .int .i64 told, .int .i64 g, .int .i64 p, .slice M' m mc', .slice O' m oc'] := by
    have := BoxV.new (w.alloc (.cells #[.slice A n c, .int .i64 told, .int .i64 g, .int .i64 p, .slice M m mc, .slice O m oc] 48)) [.slice A' n c', .int .i64 told, .int .i64 g, .int .i64 p, .slice M' m mc', .slice O' m oc'] 48
    simpa using this
  have hbel : Below w.heap.size w ((w.alloc (.cells #[.slice A n c, .int .i64 told, .int .i64 g, .int .i64 p, .slice M m mc, .slice O m oc] 48)).alloc (.cells #[.slice A' n c', .int .i64 told, .int .i64 g, .int .i64 p, .slice M' m mc', .slice O' m oc'] 48)) := ((Below.refl _ _).alloc (Nat.le_refl _) _).alloc (by simp) _
  have a0 := hb2.cell (j := 0) rfl; have a1 := hb2.cell (j := 1) rfl; have a2 := hb2.cell (j := 2) rfl; have a3 := hb2.cell (j := 3) rfl; have a4 := hb2.cell (j := 4) rfl; have a5 := hb2.cell (j := 5) rfl
  have b0 := hb3.cell (j := 0) rfl; have b1 := hb3.cell (j := 1) rfl; have b2 := hb3.cell (j := 2) rfl; have b3 := hb3.cell (j := 3) rfl; have b4 := hb3.cell (j := 4) rfl; have b5 := hb3.cell (j := 5) rfl
  have HB := Lib.hid hbel
  clear h1 h1' h2 h2' h3 h3' hb1 hb2 hb3 hbel
  go_enter Try.func23, Try.ntmps23
  go_wp2_with (first
    | (go_at_call 42; refine (k1 _ HB.out).mono ?_; clear k1; rintro e w2 ⟨rfl, q1, rfl⟩)
    | (go_at_call 14; refine (k2 _ (below_drewN HB.out _)).mono ?_; clear k2; rintro e w2 ⟨rfl, q2, rfl⟩)
    | (go_at_call 14; refine (k3 _ (below_drewN (below_drewN HB.out _) _)).mono ?_; clear k3; rintro e w2 ⟨rfl, q3, rfl⟩)
    | (go_at_call 14; refine (k3 _ (below_drewN HB.out _)).mono ?_; clear k3; rintro e w2 ⟨rfl, q3, rfl⟩))
  go_ret
  exact ⟨rfl, by first | exact below_drewN HB.out _ | exact below_drewN (below_drewN HB.out _) _ | exact below_drewN (below_drewN (below_drewN HB.out _) _) _⟩
end Go.Proofs.Ytglcljlafioleaa

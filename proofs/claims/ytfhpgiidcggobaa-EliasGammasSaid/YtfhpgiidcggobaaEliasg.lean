import Derived.Test.YtfhpgiidcggobaaDigits
import Derived.Shelf.Small.Bits
import Derived.Test.YtfhpgiidcggobaaStep
set_option linter.unusedVariables false
namespace Go.Proofs.Ytfhpgiidcggobaa
open Go.RowKit Go.Shelf

def lays129_ren : Go.Shelf.Ren := ⟨fun | 129 => 70 | n => n, fun | 53 => 89 | 3 => 3 | 4 => 4 | 46 => 71 | 5 => 5 | 9 => 9 | n => n, fun | n => n⟩
theorem lays129 : Go.Proofs.Lays.n129 Try.prog lays129_ren := {
  mixed := by kernel_rfl
  f129 := Try.func70.trans (congrArg some (by kernel_rfl))
  t3 := Try.underlying3
  a3 := Try.isAgg3
  z3 := Try.sizeOf3
  v3 := Try.zeroValue3
  t4 := Try.underlying4
  a4 := Try.isAgg4
  z4 := Try.sizeOf4
  v4 := Try.zeroValue4
  t5 := Try.underlying5
  a5 := Try.isAgg5
  z5 := Try.sizeOf5
  v5 := Try.zeroValue5
  t9 := Try.underlying9
  a9 := Try.isAgg9
  z9 := Try.sizeOf9
  v9 := Try.zeroValue9
  t46 := Try.underlying71
  a46 := Try.isAgg71
  z46 := Try.sizeOf71
  v46 := Try.zeroValue71
  t53 := Try.underlying89
  a53 := Try.isAgg89
  z53 := Try.sizeOf89
  v53 := Try.zeroValue89 }
def lays125_ren : Go.Shelf.Ren := ⟨fun | 125 => 53 | 128 => 69 | 129 => 70 | n => n, fun | 46 => 71 | 3 => 3 | 51 => 87 | 53 => 89 | 4 => 4 | 5 => 5 | 9 => 9 | n => n, fun | n => n⟩
theorem lays125 : Go.Proofs.Lays.n125 Try.prog lays125_ren := {
  mixed := by kernel_rfl
  f125 := Try.func53.trans (congrArg some (by kernel_rfl))
  f128 := Try.func69.trans (congrArg some (by kernel_rfl))
  f129 := Try.func70.trans (congrArg some (by kernel_rfl))
  t3 := Try.underlying3
  a3 := Try.isAgg3
  z3 := Try.sizeOf3
  v3 := Try.zeroValue3
  t4 := Try.underlying4
  a4 := Try.isAgg4
  z4 := Try.sizeOf4
  v4 := Try.zeroValue4
  t5 := Try.underlying5
  a5 := Try.isAgg5
  z5 := Try.sizeOf5
  v5 := Try.zeroValue5
  t9 := Try.underlying9
  a9 := Try.isAgg9
  z9 := Try.sizeOf9
  v9 := Try.zeroValue9
  t46 := Try.underlying71
  a46 := Try.isAgg71
  z46 := Try.sizeOf71
  v46 := Try.zeroValue71
  t51 := Try.underlying87
  a51 := Try.isAgg87
  z51 := Try.sizeOf87
  v51 := Try.zeroValue87
  t53 := Try.underlying89
  a53 := Try.isAgg89
  z53 := Try.sizeOf89
  v53 := Try.zeroValue89 }
theorem bits_Len (n k : Nat) (w : World) (hn : n ≤ 1048576) (hk : Hid (Lib.bitLen n = k)) :
    Calls Try.prog 53 #[.int .u64 (n : Int)] w (Ret w (.int .i64 (k : Int))) :=
  (Any.bits_Len lays125 (n : Int) w (by omega) (by omega)).mono fun e w' ⟨h1, h2⟩ => ⟨by rw [h1, Int.toNat_natCast, hk.out], h2.symm⟩
def gaL (n k : Nat) : List Bool := List.replicate (k - 1) false ++ digitsL n k
theorem gaL_vb (n k : Nat) : List.replicate (k - 1) (Value.bool false) ++ vb (digitsL n k) = vb (gaL n k) := by
  unfold gaL vb; rw [List.map_append, List.map_replicate]
theorem one_vbG (l : List Bool) : ∀ u ∈ vb l, u.oneCell' = true := by
  intro u hu; obtain ⟨b, _, rfl⟩ := List.mem_map.1 hu; rfl
set_option maxRecDepth 100000 in
set_option maxHeartbeats 800000 in
theorem elias_gamma (n k : Nat) (w : World) (hn : n ≤ 1048576) (hk : Hid (Lib.bitLen n = k)) (h1 : 1 ≤ k) (h2 : k ≤ 21) :
    Calls Try.prog 51 #[.int .i64 (n : Int)] w (RetS w 4 (vb (gaL n k))) := by
  have cl := bits_Len n k w hn hk
  have cd := fun w => kraft_Digits n k w (by omega) (by omega)
  have HV := Lib.hid (gaL_vb n k)
  have HL := Lib.hid (digitsL_len n k)
  obtain ⟨m, hm⟩ : ∃ m, m + 1 = k := ⟨k - 1, by omega⟩
  have em : (k : Int) - 1 = (m : Int) := by omega
  have emn : k - 1 = m := by omega
  rw [emn] at HV
  clear emn hm
  have hwr : IntKind.i64.wrap (m : Int) = (m : Int) := by rw [IntKind.wrap_i64]; omega
  have hmk : ∀ w : World, (Instr.makeSlice 24 (.int .i64 (m : Int)) (.int .i64 (m : Int))).run Try.prog w = .ok (.slice (some ⟨w.heap.size, 0, none⟩) m m) (w.alloc (.cells (madeCells #[.bool false] m) 4)) := fun w => run_make_row' 24 4 (.bool false) 1 Try.underlying24 (by kernel_rfl) rfl .i64 .i64 m (by omega) (by omega) w
  have hom := fun (w1 : World) (hb : Below w.heap.size w w1) => own_made (base := w.heap.size) el_clone_bools w1 m (by unfold maxLen; omega) hb.size
  go_enter Try.func51, Try.ntmps51
  go_wp2_with (go_at_call 53; refine cl.mono ?_; rintro e w' ⟨rfl, rfl⟩)
  have hb0 : Below w.heap.size w w.drew := (Below.refl _ w).drew
  have hbM : Below w.heap.size w (w.drew.alloc (.cells (madeCells #[.bool false] m) 4)) := hb0.alloc (Nat.le_refl _) _
  have hlr : Hid ((List.replicate m (Value.bool false)).length = m) := List.length_replicate
  go_region_law (first
    | (refine step_appN el_clone_bools rfl (.tmp 9) (.tmp 12) rfl rfl ((hom w.drew hb0).below hbd (Nat.le_refl _)) rfl hod.reads (one_vbG _) (by rw [hlr.out, ← hnd.out]; unfold maxLen; omega) (by rw [hlr.out, ← hnd.out]; omega) (by have := hbd.size; simp at this ⊢; omega) ?_; intro v3 w3 ho3 hb3; have hbF : Below w.heap.size w w3 := (hbM.trans (hbd.mono hbM.size)).trans hb3)
    | (refine step_appN el_clone_bools rfl (.tmp 9) (.tmp 12) rfl rfl (hom wd (hb0.trans hbd)) rfl (hod.reads.alloc (Nat.le_refl _) _) (one_vbG _) (by rw [hlr.out, ← hnd.out]; unfold maxLen; omega) (by rw [hlr.out, ← hnd.out]; omega) (by have := hbd.size; simp at this ⊢; omega) ?_; intro v3 w3 ho3 hb3; have hbF : Below w.heap.size w w3 := ((hb0.trans hbd).alloc (hb0.trans hbd).size _).trans hb3)
    | (go_simp; go_at_call 46; refine (cd _).mono ?_; rintro e wd ⟨Ad, nd, kd, rfl, hod, hbd⟩; have hnd : Hid (k = nd) := (by have h1 := hod.len; rw [List.length_map, HL.out] at h1; exact h1)))
  all_goals
    rw [HV.out] at ho3
    obtain ⟨A3, k3, e3⟩ := ho3.form
    generalize (vb (gaL n k)).length = n3 at e3
    subst e3
    go_wp2
    go_ret
    exact ⟨A3, n3, k3, rfl, ho3, hbF⟩
end Go.Proofs.Ytfhpgiidcggobaa

/-
  huff.lens: the trees sorted by weight.
-/
import Derived.Test.YtdidahafbcddeaaProg
import Derived.Test.YtdidahafbcddeaaSortk
import Derived.Shelf.SlLaysF0
set_option linter.unusedVariables false
namespace Go.Proofs.Ytdidahafbcddeaa
open Go.RowKit Go.Shelf Go.Sort

def laysInsH_ren : Go.Shelf.Ren := ⟨fun | 20 => 68 | n => n, fun | 24 => 78 | 22 => 76 | 3 => 3 | 25 => 81 | 4 => 4 | 0 => 0 | n => n, fun | n => n⟩
theorem laysInsH : Go.Proofs.SlLaysF0.n20 Try.prog laysInsH_ren := {
  mixed := by kernel_rfl
  f20 := ⟨Try.f68.name, by decide, Try.func68.trans (congrArg some (by kernel_rfl))⟩
  t0 := Try.underlying0
  a0 := Try.isAgg0
  z0 := Try.sizeOf0
  v0 := Try.zeroValue0
  t3 := Try.underlying3
  a3 := Try.isAgg3
  z3 := Try.sizeOf3
  v3 := Try.zeroValue3
  t4 := Try.underlying4
  a4 := Try.isAgg4
  z4 := Try.sizeOf4
  v4 := Try.zeroValue4
  t22 := Try.underlying76
  a22 := Try.isAgg76
  z22 := Try.sizeOf76
  v22 := Try.zeroValue76
  t25 := Try.underlying81
  a25 := Try.isAgg81
  z25 := Try.sizeOf81
  v25 := Try.zeroValue81 }
structure HT where
  wt : Nat
  A : Option Addr
  n : Nat
  c : Nat
instance : Inhabited HT := ⟨⟨0, none, 0, 0⟩⟩
def encH (x : HT) : List Value := [.int .i64 (x.wt : Int), .slice x.A x.n x.c]
def cmpL (x y : Int) : Int := if x < y then -1 else if y < x then 1 else 0
def cmpH (x y : HT) : Int := cmpL (x.wt : Int) (y.wt : Int)
theorem cmp_nanL (x : Int) (w : World) : Calls Try.prog 64 #[.int .i64 x] w (Ret w (.bool false)) := by
  go_enter Try.func64, Try.ntmps64
  go_wp2
  go_ret
  exact ⟨rfl, rfl⟩
theorem cmp_long (x y : Int) (w : World) : Calls Try.prog 53 #[.int .i64 x, .int .i64 y] w (Ret w (.int .i64 (cmpL x y))) := by
  unfold cmpL
  by_cases h1 : x < y
  · rw [if_pos h1]
    go_enter Try.func53, Try.ntmps53
    go_wp2_with (go_at_call 64; refine (cmp_nanL _ w).mono ?_; rintro e w' ⟨rfl, rfl⟩)
    go_ret
    exact ⟨rfl, rfl⟩
  · rw [if_neg h1]
    by_cases h2 : y < x
    · rw [if_pos h2]
      go_enter Try.func53, Try.ntmps53
      go_wp2_with (go_at_call 64; refine (cmp_nanL _ w).mono ?_; rintro e w' ⟨rfl, rfl⟩)
      go_ret
      exact ⟨rfl, rfl⟩
    · rw [if_neg h2]
      go_enter Try.func53, Try.ntmps53
      go_wp2_with (go_at_call 64; refine (cmp_nanL _ w).mono ?_; rintro e w' ⟨rfl, rfl⟩)
      go_ret
      exact ⟨rfl, rfl⟩
set_option maxHeartbeats 800000 in
theorem huff_less (x y : HT) (W : World) : Calls Try.prog 52 #[.agg #[.int .i64 (x.wt : Int), .slice x.A x.n x.c], .agg #[.int .i64 (y.wt : Int), .slice y.A y.n y.c]] W (fun e w' => e = .returned (.int .i64 (cmpH x y)) ∧ ∃ q os', w' = grow (W.drewN q) os') := by
  have hc := fun W' => cmp_long (x.wt : Int) (y.wt : Int) W'
  unfold cmpH
  obtain ⟨xw, xA, xn, xc⟩ := x
  obtain ⟨yw, yA, yn, yc⟩ := y
  simp only at hc ⊢
  generalize cmpL (xw : Int) (yw : Int) = r at hc ⊢
  go_enter Try.func52, Try.ntmps52
  go_wp2_with (go_at_call 53; refine (hc _).mono ?_; rintro e w' ⟨rfl, rfl⟩)
  go_ret
  exact ⟨rfl, 0, _, by rw [alloc_eq_grow, alloc_eq_grow, grow_grow]; rfl⟩
theorem swo_H : SWO (ltOf cmpH) := by
  have h : ∀ x y : HT, ltOf cmpH x y = decide (x.wt < y.wt) := by
    intro x y
    unfold ltOf cmpH cmpL
    by_cases h1 : (x.wt : Int) < (y.wt : Int)
    · rw [if_pos h1, decide_eq_true (by omega), decide_eq_true (by omega)]
    · rw [if_neg h1]
      have : ¬ x.wt < y.wt := by omega
      by_cases h2 : (y.wt : Int) < (x.wt : Int)
      · rw [if_pos h2, decide_eq_false (by omega), decide_eq_false this]
      · rw [if_neg h2, decide_eq_false (by omega), decide_eq_false this]
  refine ⟨fun x => ?_, fun x y z h1 h2 => ?_, fun x y z h1 h2 => ?_⟩
  · rw [h]; simp
  · rw [h] at h1 h2 ⊢
    simp only [decide_eq_true_eq] at h1 h2 ⊢
    omega
  · rw [h] at h1 h2 ⊢
    simp only [decide_eq_false_iff_not] at h1 h2 ⊢
    omega
theorem lt_H (x y : HT) (h : ltOf cmpH x y = false) : y.wt ≤ x.wt := by
  unfold ltOf cmpH cmpL at h
  rcases Nat.lt_or_ge x.wt y.wt with h1 | h1
  · rw [if_pos (by omega)] at h
    simp at h
  · exact h1
theorem encH_len (x : HT) : (encH x).length = 2 := rfl
set_option maxRecDepth 100000 in
set_option maxHeartbeats 800000 in
theorem sort_trees (d : Array HT) (g off N c base : Nat) (w : World) (h : OwnQ w base 78 2 (.slice (some ⟨g, off, none⟩) N c) (d.toList.map encH)) (hd : d.size = N) (hN19 : N ≤ 19) :
    Calls Try.prog 51 #[.slice (some ⟨g, off, none⟩) N c, .func (.func 52) #[] #[]] w (fun e w' =>
      e = .returned (.tuple #[]) ∧ ∃ d' : Array HT, d'.toList.Perm d.toList ∧ d'.size = N ∧ (∀ i j, i < j → j < N → d'[i]!.wt ≤ d'[j]!.wt) ∧ OwnQ w' base 78 2 (.slice (some ⟨g, off, none⟩) N c) (d'.toList.map encH) ∧ Ch w w' (fun b => b = g)) := by
  obtain ⟨hH, hg⟩ := h.holdsK encH_len
  have eg : ∀ args w, (callFunc 52 args).run Try.prog w = .ok (.enter 52 args) w := enters_of Try.func52 (by kernel_rfl) rfl
  have hcmp : CmpLays Try.prog 52 #[] encH 2 cmpH g off d.size w := fun _ _ _ _ x y => huff_less x y _
  have c0 := AnyQ.insertionSortCmpFunc laysInsH 2 Try.isAgg78 Try.sizeOf78 encH encH_len (fun x v hv => by simp [encH] at hv; rcases hv with rfl | rfl <;> rfl) cmpH 52 #[] g off c 0 d.size d w eg hcmp hH hg (Nat.zero_le _) (Nat.le_refl _) (by omega)
  obtain ⟨hp, hso⟩ := insertionSort_holds swo_H d 0 d.size (Nat.zero_le _) (Nat.le_refl _)
  obtain ⟨hp1, hp2⟩ := perm_of d _ hp
  have hkey : ∀ (m : Nat) (os : Array Obj), ∃ d' : Array HT, d'.toList.Perm d.toList ∧ d'.size = N ∧ (∀ i j, i < j → j < N → d'[i]!.wt ≤ d'[j]!.wt) ∧ OwnQ (sortWorldK encH 2 w g off m (Sort.insertionSort (ltOf cmpH) d 0 d.size) os) base 78 2 (.slice (some ⟨g, off, none⟩) N c) (d'.toList.map encH) ∧ Ch w (sortWorldK encH 2 w g off m (Sort.insertionSort (ltOf cmpH) d 0 d.size) os) (fun b => b = g) := fun m os => by
    obtain ⟨e1, e2⟩ := h.sorted encH_len hp2 m os
    exact ⟨_, hp1, hp2.trans hd, fun i j hij hj => lt_H _ _ (hso i j (Nat.zero_le _) hij (by omega)), e1, e2⟩
  have HKEY := Lib.hid hkey
  clear hkey hp hso hp1 hp2
  have c1 : Calls Try.prog 63 #[.slice (some ⟨g, off, none⟩) N c, .int .i64 (N : Int), .func (.func 52) #[] #[]] w fun e w' =>
      e = .returned (.tuple #[]) ∧ ∃ n os, w' = sortWorldK encH 2 w g off n (Sort.insertionSort (ltOf cmpH) d 0 d.size) os := by
    have c0 : Calls Try.prog 68 #[.slice (some ⟨g, off, none⟩) N c, .int .i64 0, .int .i64 (N : Int), .func (.func 52) #[] #[]] w fun e w' =>
      e = .returned (.tuple #[]) ∧ ∃ n os, w' = sortWorldK encH 2 w g off n (Sort.insertionSort (ltOf cmpH) d 0 d.size) os := by rw [← hd]; exact c0
    clear HKEY
    generalize Sort.insertionSort (ltOf cmpH) d 0 d.size = r at *
    clear hcmp hH eg h hd
    go_enter Try.func63, Try.ntmps63
    go_wp2
    refine wp_loop_rounds 1 ?_
    rw [rounds_succ]
    go_wp2_with (go_at_call 68; refine c0.mono ?_; clear c0; rintro e w' ⟨rfl, n, os, rfl⟩)
    refine wp_loop_rounds 1 ?_
    rw [rounds_succ]
    go_wp2
    go_end0
    exact ⟨rfl, n, os, rfl⟩
  clear hcmp hH eg c0 h hd
  go_enter Try.func51, Try.ntmps51
  go_wp2_with (go_at_call 63; refine c1.mono ?_; clear c1; rintro e w' ⟨rfl, n, os, rfl⟩)
  go_end0
  exact ⟨rfl, HKEY.out n os⟩
end Go.Proofs.Ytdidahafbcddeaa

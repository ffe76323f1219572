/-
  turn.Turn walked.
-/
import Derived.Test.YtdidahafbcddeaaTud
set_option linter.unusedVariables false
namespace Go.Proofs.Ytdidahafbcddeaa
open Go.RowKit Go.Shelf Go.Sort

/-- what turn.Turn answers -/
def TurnP (w : World) (T : List Nat) (e : Ending) (w' : World) : Prop :=
  ∃ A' n' c' out a, e = .returned (.tuple #[.slice A' n' c', .int .i64 ((a : Nat) : Int), .int .i64 0]) ∧ TurnR T out a ∧ Reads w' w'.heap.size A' n' (vn .u8 out) ∧ Below w.heap.size w w'
theorem tins_nil (g : Nat) (cb : Array Value) (w : World) : Calls Try.prog 66 #[.slice none 0 0, .int .i64 0, .int .i64 0, .func (.func g) #[] cb] w (Ret w (.tuple #[])) := by
  go_enter Try.func66, Try.ntmps66
  go_wp2
  refine wp_loop_rounds 1 ?_
  rw [rounds_succ]
  go_wp2
  go_end0
  exact ⟨rfl, rfl⟩
theorem tsort_nil (g : Nat) (cb : Array Value) (w : World) : Calls Try.prog 38 #[.slice none 0 0, .func (.func g) #[] cb] w (Ret w (.tuple #[])) := by
  have c0 := tins_nil g cb w
  have c1 : Calls Try.prog 56 #[.slice none 0 0, .int .i64 0, .func (.func g) #[] cb] w (Ret w (.tuple #[])) := by
    go_enter Try.func56, Try.ntmps56
    go_wp2
    refine wp_loop_rounds 1 ?_
    rw [rounds_succ]
    go_wp2_with (go_at_call 66; refine c0.mono ?_; clear c0; rintro e w' ⟨rfl, rfl⟩)
    refine wp_loop_rounds 1 ?_
    rw [rounds_succ]
    go_wp2
    go_end0
    exact ⟨rfl, rfl⟩
  clear c0
  go_enter Try.func38, Try.ntmps38
  go_wp2_with (go_at_call 56; refine c1.mono ?_; clear c1; rintro e w' ⟨rfl, rfl⟩)
  go_end0
  exact ⟨rfl, rfl⟩
theorem tindex_nil (w : World) : Calls Try.prog 41 #[.slice none 0 0, .int .i64 0] w (Ret w (.int .i64 (-1))) := by
  go_enter Try.func41, Try.ntmps41
  go_wp2
  refine wp_loop_rounds 1 ?_
  rw [rounds_succ]
  go_wp2
  go_ret
  exact ⟨rfl, rfl⟩
theorem el_intT : Elem Try.prog 32 3 (.int .i64 0) 8 := Elem.mk' Try.underlying32 (by kernel_rfl) rfl
theorem vals_range (M : Nat) : (List.finRange (M + 1)).map (encF M) = vn .i64 (List.range (M + 1)) := by
  apply List.ext_getElem (by simp)
  intro i h1 h2
  simp [encF]
theorem vals_perm {M : Nat} {r : List (Fin (M + 1))} (h : r.Perm (List.finRange (M + 1))) : (r.map Fin.val).Perm (List.range (M + 1)) := by
  have := h.map Fin.val
  have e : (List.finRange (M + 1)).map Fin.val = List.range (M + 1) := by
    apply List.ext_getElem (by simp)
    intro i h1 h2
    simp
  rwa [e] at this
theorem ord_of {M : Nat} {T : List Nat} (hM : T.length = M + 1) {r : List (Fin (M + 1))} (h : r.Perm (List.finRange (M + 1))) (ho : r.Pairwise fun x y => keyI (fun i : Fin (M + 1) => nv (trn T i.val)) x < keyI (fun i : Fin (M + 1) => nv (trn T i.val)) y) : Ord T (r.map Fin.val) := by
  refine ⟨by rw [hM]; exact vals_perm h, ?_⟩
  rw [List.pairwise_map]
  refine ho.imp fun {a b} hab => ?_
  unfold kT
  rw [hM]
  exact hab
theorem turnR_nil : TurnR [] [] 0 := ⟨[], ⟨List.Perm.refl _, List.Pairwise.nil⟩, rfl, rfl⟩
theorem one_vn (K : IntKind) (l : List Nat) : ∀ u ∈ vn K l, u.oneCell' = true := by
  intro u hu
  obtain ⟨x, _, rfl⟩ := List.mem_map.1 hu
  rfl
theorem vn_snoc (K : IntKind) (l : List Nat) (x : Nat) : vn K l ++ [Value.int K (x : Int)] = vn K (l ++ [x]) := by simp
set_option maxHeartbeats 800000 in
theorem turn_Turn_nil (A : Option Addr) (c : Nat) (T : List Nat) (w : World) (h : Reads w w.heap.size A 0 (vn .u8 T)) :
    Calls Try.prog 18 #[.slice A 0 c] w (TurnP w T) := by
  have hT : T = [] := List.eq_nil_of_length_eq_zero h.nat_len
  subst hT
  have hw1 : Below w.heap.size w (w.alloc (.cells #[.int .i64 0] 3)) := (Below.refl _ w).alloc (Nat.le_refl _) _
  have cc := concat_bytes2 A A 0 0 c c [] [] (w.alloc (.cells #[.int .i64 0] 3)) ((h.below hw1).more hw1.size) ((h.below hw1).more hw1.size) (by simp) (by simp) (by omega)
  simp only [World.size_alloc] at cc
  have cs := fun (g : Nat) (cb : Array Value) (W : World) => tsort_nil g cb W
  have ci := fun (W : World) => tindex_nil W
  go_enter Try.func18, Try.ntmps18
  go_wp2_with (go_at_call 37; refine cc.mono ?_; clear cc; rintro e w3 ⟨A3, n3, c3, rfl, ho3, hb3⟩
               have hb4 : Below w.heap.size w (w3.alloc (.cells #[.slice A3 n3 c3] 42)) := by
                 have h1 := hw1.trans (hb3.mono hw1.size)
                 exact h1.alloc h1.size _
               have k5 : (w3.alloc (.cells #[.slice A3 n3 c3] 42)).cell? ⟨w.heap.size, 0, none⟩ = some (.int .i64 0) := by
                 have h2 := (hb3.cell (p := ⟨w.heap.size, 0, none⟩) (by simp)).trans (cell_one_new w (.int .i64 0) 3 0 _ rfl)
                 exact (World.cell?_alloc_lt _ _ _ (by have := hb3.size; simp at this; show w.heap.size < w3.heap.size; omega)).trans h2)
  refine wp_loop_rounds 1 ?_
  rw [rounds_succ]
  go_wp2_with (go_at_call 38; refine (cs _ _ _).mono ?_; clear cs; rintro e w' ⟨rfl, rfl⟩)
  refine wp_loop_rounds 1 ?_
  rw [rounds_succ]
  go_wp2_with (go_at_call 41; refine (ci _).mono ?_; clear ci; rintro e w' ⟨rfl, rfl⟩)
  go_ret3
  exact ⟨none, 0, 0, [], 0, rfl, turnR_nil, ⟨rfl, fun h => absurd h (by omega)⟩, hb4⟩
end Go.Proofs.Ytdidahafbcddeaa

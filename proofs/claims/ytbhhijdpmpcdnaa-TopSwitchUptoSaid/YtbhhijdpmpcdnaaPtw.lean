/-
  TopReads: the walk.
-/
import Derived.Test.YtbhhijdpmpcdnaaPtr
set_option linter.unusedVariables false
namespace Go.Proofs.Ytbhhijdpmpcdnaa
open Go.RowKit

def stOfP (zss : List (List Int)) : List StS := zss.map fun z => ⟨z.getD 0 0, z.getD 1 0, z.getD 2 0, (z.getD 3 0).toNat⟩
theorem four_ofP {z : List Int} (h : z.length = 4) : z = [z.getD 0 0, z.getD 1 0, z.getD 2 0, z.getD 3 0] := by
  match z, h with
  | [a, b, c, d], _ => rfl
theorem stOfP_is (zss : List (List Int)) (wf : ∀ zs ∈ zss, zs.length = [IntKind.i64, IntKind.i64, IntKind.i64, IntKind.u8].length ∧ ∀ (j : Nat) (z : Int) (k : IntKind), zs[j]? = some z → [IntKind.i64, IntKind.i64, IntKind.i64, IntKind.u8][j]? = some k → (Lit.int k z).wf = true) :
    (zss.map fun zs => List.zipWith Value.int [.i64, .i64, .i64, .u8] zs) = (stOfP zss).map stC ∧ ∀ m ∈ stOfP zss, m.val < 256 := by
  have hb : ∀ z ∈ zss, z = [z.getD 0 0, z.getD 1 0, z.getD 2 0, z.getD 3 0] ∧ 0 ≤ z.getD 3 0 ∧ z.getD 3 0 < 256 := by
    intro z hz
    obtain ⟨h1, h2⟩ := wf z hz
    have h3 := four_ofP h1
    have h4 := bounds_u8 (h2 3 (z.getD 3 0) .u8 (by rw [h3]; rfl) rfl)
    exact ⟨h3, h4.1, by have := h4.2; omega⟩
  constructor
  · unfold stOfP
    rw [List.map_map]
    apply List.map_congr_left
    intro z hz
    obtain ⟨h1, h2, h3⟩ := hb z hz
    show List.zipWith Value.int [.i64, .i64, .i64, .u8] z = [Value.int .i64 (z.getD 0 0), Value.int .i64 (z.getD 1 0), Value.int .i64 (z.getD 2 0), Value.int .u8 (((z.getD 3 0).toNat : Nat) : Int)]
    rw [Int.toNat_of_nonneg h2]
    conv => lhs; rw [h1]
    rfl
  · intro m hm
    unfold stOfP at hm
    obtain ⟨z, hz, rfl⟩ := List.mem_map.1 hm
    obtain ⟨h1, h2, h3⟩ := hb z hz
    show (z.getD 3 0).toNat < 256
    omega
def PairNo (w : World) (e : Ending) (w' : World) : Prop := ∃ z : Int, e = .returned (.tuple #[.agg #[.slice none 0 0, .int .i64 0, .int .i64 0], .int .i64 z]) ∧ (z != 0) = true ∧ Below w.heap.size w w'
set_option maxHeartbeats 1600000 in
theorem pair_Play_no (mode d : Int) (A : Option Addr) (n c : Nat) (w : World) (h : ¬ (1 ≤ mode ∧ mode ≤ 3 ∧ 3 ≤ d ∧ d ≤ 6 ∧ n ≤ 100)) :
    Calls Try.prog 7 #[.int .i64 mode, .int .i64 d, .slice A n c] w (PairNo w) := by
  by_cases h1 : mode < 1
  · clear h
    go_enter Try.func7, Try.ntmps7
    go_wp2
    refine bodyPost_ret (v := .tuple #[.agg #[.slice none 0 0, .int .i64 0, .int .i64 0], .int .i64 6]) (by simp [results, Try.f7, go_sem]) rfl ⟨6, rfl, rfl, ?_⟩
    exact (Below.refl _ _).alloc (Nat.le_refl _) _
  by_cases h3 : 3 < mode
  · clear h
    go_enter Try.func7, Try.ntmps7
    go_wp2
    refine bodyPost_ret (v := .tuple #[.agg #[.slice none 0 0, .int .i64 0, .int .i64 0], .int .i64 6]) (by simp [results, Try.f7, go_sem]) rfl ⟨6, rfl, rfl, ?_⟩
    exact (Below.refl _ _).alloc (Nat.le_refl _) _
  by_cases hd : d < 3 ∨ 6 < d
  · have cp := fun W => stripe_Place d 0 0 0 4 W (by unfold Hid placeRes3; rw [if_pos hd])
    clear h hd
    go_enter Try.func7, Try.ntmps7
    go_wp2_with (go_at_call 13; refine (cp _).mono ?_; clear cp; rintro e w' ⟨rfl, rfl⟩)
    refine bodyPost_ret (v := .tuple #[.agg #[.slice none 0 0, .int .i64 0, .int .i64 0], .int .i64 4]) (by simp [results, Try.f7, go_sem]) rfl ⟨4, rfl, rfl, ?_⟩
    exact (Below.refl _ _).alloc (Nat.le_refl _) _
  · obtain ⟨px, py, hp⟩ : ∃ x y, placeRes3 d 0 = (x, y, 0) := by
      unfold placeRes3
      rw [if_neg hd, if_neg (by omega)]
      exact ⟨_, _, rfl⟩
    have cp := fun W => stripe_Place d 0 px py 0 W hp
    have hn : 100 < n := by omega
    have i0 : (100 : Int) < (n : Int) := by omega
    clear h hd hp hn
    go_enter Try.func7, Try.ntmps7
    go_wp2_with (go_at_call 13; refine (cp _).mono ?_; clear cp; rintro e w' ⟨rfl, rfl⟩)
    refine bodyPost_ret (v := .tuple #[.agg #[.slice none 0 0, .int .i64 0, .int .i64 0], .int .i64 1]) (by simp [results, Try.f7, go_sem]) rfl ⟨1, rfl, rfl, ?_⟩
    exact (Below.refl _ _).alloc (Nat.le_refl _) _
def mayB (mode d : Int) (n : Nat) : Bool := decide (1 ≤ mode ∧ mode ≤ 3 ∧ 3 ≤ d ∧ d ≤ 6 ∧ n ≤ 100)
set_option maxHeartbeats 1600000 in
theorem top_may (mode d : Int) (A : Option Addr) (n c : Nat) (w : World) (b : Bool) (hb : Hid (mayB mode d n = b)) :
    Calls Try.prog 12 #[.int .i64 mode, .int .i64 d, .slice A n c] w (Ret w (.bool b)) := by
  have hn : ((n : Int) ≤ 100) = (n ≤ 100) := by apply propext; omega
  by_cases h1 : 1 ≤ mode
  · by_cases h2 : mode ≤ 3
    · by_cases h3 : 3 ≤ d
      · by_cases h4 : d ≤ 6
        · by_cases h5 : n ≤ 100
          · obtain rfl : b = true := by rw [← hb.out]; simp [mayB, h1, h2, h3, h4, h5]
            have i5 : (n : Int) ≤ 100 := by omega
            clear hb hn h5
            go_enter Try.func12, Try.ntmps12
            go_wp2
            go_ret
            exact ⟨rfl, rfl⟩
          · obtain rfl : b = false := by rw [← hb.out]; simp [mayB, h5]
            have i5 : ¬ (n : Int) ≤ 100 := by omega
            clear hb hn h5
            go_enter Try.func12, Try.ntmps12
            go_wp2
            go_ret
            exact ⟨rfl, rfl⟩
        · obtain rfl : b = false := by rw [← hb.out]; simp [mayB, h4]
          clear hb hn
          go_enter Try.func12, Try.ntmps12
          go_wp2
          go_ret
          exact ⟨rfl, rfl⟩
      · obtain rfl : b = false := by rw [← hb.out]; simp [mayB, h3]
        clear hb hn
        go_enter Try.func12, Try.ntmps12
        go_wp2
        go_ret
        exact ⟨rfl, rfl⟩
    · obtain rfl : b = false := by rw [← hb.out]; simp [mayB, h2]
      clear hb hn
      go_enter Try.func12, Try.ntmps12
      go_wp2
      go_ret
      exact ⟨rfl, rfl⟩
  · obtain rfl : b = false := by rw [← hb.out]; simp [mayB, h1]
    clear hb hn
    go_enter Try.func12, Try.ntmps12
    go_wp2
    go_ret
    exact ⟨rfl, rfl⟩
set_option maxHeartbeats 1600000 in
theorem reads_err (mode d : Int) (A : Option Addr) (n c : Nat) (w : World) (h : ¬ (1 ≤ mode ∧ mode ≤ 3 ∧ 3 ≤ d ∧ d ≤ 6 ∧ n ≤ 100)) :
    Calls Try.prog 4 #[.int .i64 mode, .int .i64 d, .slice A n c] w (LawTrue w) := by
  have c1 := pair_Play_no mode d A n c w h
  have c2 := fun W => top_may mode d A n c W false (by simp only [Hid, mayB, decide_eq_false_iff_not]; exact h)
  clear h
  go_enter Try.func4, Try.ntmps4
  go_wp2_with (first
    | (go_at_call 7; refine c1.mono ?_; clear c1; rintro e w1 ⟨z, rfl, hz, hb1⟩)
    | (go_at_call 12; refine (c2 _).mono ?_; clear c2; rintro e w' ⟨rfl, rfl⟩))
  go_ret
  exact ⟨by first | rfl | rw [hz] | simp_all, hb1.alloc hb1.size _⟩
end Go.Proofs.Ytbhhijdpmpcdnaa

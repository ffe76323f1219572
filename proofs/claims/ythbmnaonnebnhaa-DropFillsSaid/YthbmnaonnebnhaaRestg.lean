import Derived.Test.YthbmnaonnebnhaaResto
import Derived.Test.YthbmnaonnebnhaaBools
set_option linter.unusedVariables false
namespace Go.Proofs.Ythbmnaonnebnhaa
open Go.RowKit

set_option maxHeartbeats 400000 in
theorem ref_DegreeAny (x : Nat) (w : World) (hx : x < 4294967296) :
    Calls Try.prog 78 #[.int .u32 (x : Int)] w (Ret w (.int .i64 (topB x 32 : Int))) := by
  go_enter Try.func78, Try.ntmps78
  go_wp2
  go_loop [3, 4] (fun s i => ∃ k : Nat, k ≤ 32 ∧ i = .int .i64 k ∧ s = .int .i64 (topB x k : Int)) (fun _ i => 32 - (intOf i).toNat)
  case atStart => exact ⟨0, by omega, rfl, rfl⟩
  case round =>
    obtain ⟨k, hk, rfl, rfl⟩ := hrel
    by_cases hlt : k < 32
    · have c := ref_Bit x k w hx hlt
      have HS : Hid (topB x (k + 1) = if bitB x k then k else topB x k) := rfl
      have htl := topB_le x k
      generalize topB x k = q at *
      generalize bitB x k = b at *
      cases b
      all_goals
        go_wp2_with (go_at_call 42; refine c.mono ?_; rintro e w' ⟨rfl, rfl⟩)
        go_round
        case rel => exact ⟨k + 1, by omega, by go_num, by rw [HS.out]; rfl⟩
        case measure => simp [intOf]; omega
    · obtain rfl : k = 32 := by omega
      go_wp2
      go_ret
      exact ⟨rfl, rfl⟩
theorem one_vb (l : List Bool) : ∀ u ∈ vb l, u.oneCell' = true := by
  intro u hu
  obtain ⟨b, _, rfl⟩ := List.mem_map.1 hu
  rfl
theorem Reads.takeB {w : World} {B n k : Nat} {A : Option Addr} {l : List Bool} (h : Reads w B A n (vb l)) (hk : k ≤ n) : Reads w B A k (vb (l.take k)) := by
  have := h.take hk
  rwa [← List.map_take] at this

def RetSE' (w : World) (E : TypeId) (xs : List Value) (z : Int) (e : Ending) (w' : World) : Prop :=
  ∃ A n c, e = .returned (.tuple #[.slice A n c, .int .i64 z]) ∧ Own w' w.heap.size E (.slice A n c) xs ∧ Below w.heap.size w w'
end Go.Proofs.Ythbmnaonnebnhaa

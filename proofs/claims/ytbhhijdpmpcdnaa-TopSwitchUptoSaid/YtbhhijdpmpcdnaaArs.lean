/-
  quipuref.Dones; stripe.Play's refusals.
-/
import Derived.Test.YtbhhijdpmpcdnaaArq
set_option linter.unusedVariables false
namespace Go.Proofs.Ytbhhijdpmpcdnaa
open Go.RowKit

set_option maxHeartbeats 800000 in
theorem ref_Dones (A A' : Option Addr) (n c c' : Nat) (out : List (Nat × Nat)) (w : World) {B B' : Nat} (h : ReadsK w B 2 A n (out.map dnC)) (h' : ReadsK w B' 2 A' n (out.map dnC)) (hn : n ≤ 100) :
    Calls Try.prog 11 #[.slice A n c, .slice A' n c'] w (RetQ w (.bool true)) := by
  have t0 : ((n : Int) != (n : Int)) = false := by simp
  go_enter Try.func11, Try.ntmps11
  go_wp2
  go_loopw [5] (fun iv wr => ∃ k m : Nat, k ≤ n ∧ iv = .int .i64 (k : Int) ∧ wr = w.drewN m) (fun iv _ => n - (intOf iv).toNat)
  case atStart => exact ⟨0, 0, Nat.zero_le _, rfl, rfl⟩
  case round =>
    obtain ⟨k, m, hk, rfl, rfl⟩ := hrel
    by_cases hlt : k < n
    · obtain ⟨ad, xs, rfl, hb, hx, hxl, hc⟩ := h.at_ hlt
      obtain ⟨ad', xs', rfl, hb', hx', hxl', hc'⟩ := h'.at_ hlt
      rw [hx] at hx'
      injection hx' with hx'
      subst hx'
      rw [List.getElem?_map] at hx
      obtain ⟨⟨p, b⟩, _, rfl⟩ := Option.map_eq_some_iff.1 hx
      have c0 := hc 0 _ rfl
      have c1 := hc 1 _ rfl
      have d0 := hc' 0 _ rfl
      have d1 := hc' 1 _ rfl
      rw [Nat.add_zero] at c0 d0
      rw [add_secondS] at c1 d1
      have i0 : (0 : Int) ≤ (k : Int) := by omega
      have i1 : (k : Int) < (n : Int) := by omega
      clear hx hc hc' hxl hxl'
      go_wp2
      go_quiet (fail)
      go_wp2
      go_roundw
      case rel => exact ⟨k + 1, m + nq, by omega, by go_num, by first | rfl | rw [World.drewN_drewN]⟩
      case measure => simp [intOf] <;> omega
    · obtain rfl : n = k := by omega
      go_wp2
      go_ret
      exact ⟨rfl, m, rfl⟩
end Go.Proofs.Ytbhhijdpmpcdnaa

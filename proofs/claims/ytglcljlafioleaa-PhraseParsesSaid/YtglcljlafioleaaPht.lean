/-
  quipuref.PhrasesSame; the law PhraseParses.
-/
import Derived.Test.YtglcljlafioleaaPhs
import Derived.BigQuiet
import Derived.Deep.QuietTactic
set_option linter.unusedVariables false
namespace Go.Proofs.Ytglcljlafioleaa
open Go.RowKit

theorem add_secondP (p : Addr) (m : Nat) : p.add (m + 1) = ⟨(p.add m).block, (p.add m).off + 1, none⟩ := by
  by_cases h : m = 0
  · subst h; simp [Addr.add]
  · simp [Addr.add, h, Nat.add_assoc]
set_option maxHeartbeats 800000 in
theorem ref_PhrasesSame (A A' : Option Addr) (n c c' : Nat) (out : List (Nat × Nat)) (w : World) {B B' : Nat} (h : ReadsK w B 2 A n (out.map phC)) (h' : ReadsK w B' 2 A' n (out.map phC)) (hn : n ≤ 64) :
    Calls Try.prog 10 #[.slice A n c, .slice A' n c'] w (RetQ w (.bool true)) := by
  have t0 : ((n : Int) != (n : Int)) = false := by simp
  go_enter Try.func10, Try.ntmps10
  go_wp2
  go_loopw [5] (fun iv wr => ∃ k m : Nat, k ≤ n ∧ iv = .int .i64 (k : Int) ∧ wr = w.drewN m) (fun iv _ => n - (intOf iv).toNat)
  case atStart => exact ⟨0, 0, Nat.zero_le _, rfl, rfl⟩
  case round =>
    obtain ⟨k, m, hk, rfl, rfl⟩ := hrel
    by_cases hlt : k < n
    · obtain ⟨ad, xs, rfl, hb, hx, hxl, hc⟩ := h.at_ hlt
      obtain ⟨ad', xs', rfl, hb', hx', hxl', hc'⟩ := h'.at_ hlt
      rw [hx] at hx'
      injection hx' with hx'
      subst hx'
      rw [List.getElem?_map] at hx
      obtain ⟨⟨p, b⟩, _, rfl⟩ := Option.map_eq_some_iff.1 hx
      have c0 := hc 0 _ rfl
      have c1 := hc 1 _ rfl
      have d0 := hc' 0 _ rfl
      have d1 := hc' 1 _ rfl
      rw [Nat.add_zero] at c0 d0
      rw [add_secondP] at c1 d1
      have i0 : (0 : Int) ≤ (k : Int) := by omega
      have i1 : (k : Int) < (n : Int) := by omega
      clear hx hc hc' hxl hxl'
      go_wp2
      go_quiet (fail)
      go_wp2
      go_roundw
      case rel => exact ⟨k + 1, m + nq, by omega, by go_num, by first | rfl | rw [World.drewN_drewN]⟩
      case measure => simp [intOf] <;> omega
    · obtain rfl : n = k := by omega
      go_wp2
      go_ret
      exact ⟨rfl, m, rfl⟩
set_option maxHeartbeats 400000 in
theorem phrase_Parse_far (A : Option Addr) (n c : Nat) (w : World) (hn : 64 < n) :
    Calls Try.prog 9 #[.slice A n c] w (Ret w (.tuple #[.slice none 0 0, .int .i64 1])) := by
  have i0 : (64 : Int) < (n : Int) := by omega
  go_enter Try.func9, Try.ntmps9
  go_wp2
  go_ret2
  exact ⟨rfl, rfl⟩
set_option maxHeartbeats 800000 in
theorem PhraseParses_walk (A : Option Addr) (n c : Nat) (l : List Nat) (w : World) (h : Reads w w.heap.size A n (vn .u8 l)) (hw : ∀ x ∈ l, x < 256) (_ : n * 1 ≤ reachBytes) (hcap : n ≤ c) :
    Calls Try.prog 3 #[.slice A n c] w (LawTrue w) := by
  by_cases h64 : n ≤ 64
  · have c1 := phrase_Parse A n c l w h hw h64
    have c2 := fun (w' : World) (hb : Below w.heap.size w w') => ref_Phrases A n c l w' ((h.below hb).more hb.size) hw h64 hcap
    have i0 : ¬ (64 : Int) < (n : Int) := by omega
    go_enter Try.func3, Try.ntmps3
    go_wp2_with (first
      | (go_at_call 9; refine c1.mono ?_; clear c1; rintro e w1 ⟨A1, n1, k1, out1, rfl, ho1, hp1, hn1, hb1⟩)
      | (go_at_call 11; refine (c2 _ hb1).mono ?_; clear c2; rintro e w2 ⟨A2, n2, k2, out2, rfl, ho2, hp2, hn2, hb2⟩; have ho1' := ho1.below hb2 (Nat.le_refl _); have he := hp1.uniq hp2; rw [← he] at ho2; obtain rfl : n1 = n2 := (by have h1 := ho1'.reads.len; have h2 := ho2.reads.len; omega); have c3 := ref_PhrasesSame A1 A2 n1 k1 k2 out1 w2 ho1'.reads ho2.reads hn1; clear he)
      | (go_at_call 10; refine c3.mono ?_; clear c3; rintro e w3 ⟨rfl, m3, rfl⟩))
    go_ret
    exact ⟨by first | rfl | simp, below_drewN (hb1.trans (hb2.mono hb1.size)) _⟩
  · have c1 := phrase_Parse_far A n c w (by omega)
    have i0 : (64 : Int) < (n : Int) := by omega
    go_enter Try.func3, Try.ntmps3
    go_wp2_with (go_at_call 9; refine c1.mono ?_; clear c1; rintro e w1 ⟨rfl, rfl⟩)
    go_ret
    exact .same _
end Go.Proofs.Ytglcljlafioleaa

/-
  quipuref.Joined: its check (a trial of how a struct is loaded from a slice).
-/
import Derived.Test.YtglcljlafioleaaProg
import Derived.Test.YtglcljlafioleaaJoin
set_option linter.unusedVariables false
namespace Go.Proofs.Ytglcljlafioleaa
open Go.RowKit

theorem add_second (p : Addr) (m : Nat) : p.add (m + 1) = ⟨(p.add m).block, (p.add m).off + 1, none⟩ := by
  by_cases h : m = 0
  · subst h; simp [Addr.add]
  · simp [Addr.add, h, Nat.add_assoc]
set_option maxHeartbeats 800000 in
theorem ref_Joined_bad (A : Option Addr) (n c i : Nat) (xss : List (List Value)) (zs : List (Int × Int)) (w : World) (h : ReadsK w w.heap.size 2 A n xss) (hx : ∀ (k : Nat) (z : Int × Int), zs[k]? = some z → xss[k]? = some [Value.int .i64 z.1, Value.int .u8 z.2]) (hl : zs.length = n) (hn : n ≤ 64) (hi : i < n)
    (hgood : ∀ k, k < i → 0 ≤ (zs.getD k (0, 0)).1 ∧ (zs.getD k (0, 0)).1 ≤ k) (hbad : (zs.getD i (0, 0)).1 < 0 ∨ (i : Int) < (zs.getD i (0, 0)).1) :
    Calls Try.prog 13 #[.slice A n c] w (RetB w (.tuple #[.slice none 0 0, .int .i64 2])) := by
  have HG := Lib.hid hgood
  have HB := Lib.hid hbad
  have HX := Lib.hid hx
  have HLZ := Lib.hid hl
  clear hgood hbad hx hl
  go_enter Try.func13, Try.ntmps13
  go_wp2
  go_loopw [16] (fun v16 wr => ∃ k : Nat, k ≤ i ∧ v16 = .int .i64 k ∧ Below w.heap.size w wr) (fun v16 _ => n - (intOf v16).toNat)
  case atStart => exact ⟨0, by omega, rfl, Below.refl _ _⟩
  case round =>
    obtain ⟨k, hk, rfl, hbel⟩ := hrel
    have i1 : (k : Int) < (n : Int) := by omega
    obtain ⟨ad, xs, e, hb, hxs, _, hcs⟩ := (h.below hbel).at_ (i := k) (by omega)
    subst e
    obtain ⟨z, hz⟩ : ∃ z, zs[k]? = some z := ⟨_, List.getElem?_eq_getElem (by have := HLZ.out; omega)⟩
    rw [HX.out k z hz] at hxs
    injection hxs with hxs
    subst hxs
    have c0 := hcs 0 _ rfl
    have c1 := hcs 1 _ rfl
    have hzD : zs.getD k (0, 0) = z := by rw [List.getD_eq_getElem?_getD, hz]; rfl
    rw [Nat.add_zero] at c0
    rw [add_second] at c1
    have hg := fun hki => HG.out k hki
    have hb := HB.out
    rw [hzD] at hg
    obtain ⟨p, b⟩ := z
    clear hcs hz
    rcases Nat.lt_or_ge k i with hki | hki
    · obtain ⟨p0, pk⟩ := hg hki
      have p1 : ¬ p < 0 := by show ¬ p < 0; omega
      have p2 : ¬ (k : Int) < p := by show ¬ (k : Int) < p; omega
      clear hg hb p0 pk hzD
      go_wp2
      go_roundw
      case rel => exact ⟨k + 1, by omega, by go_num, by first | exact hbel | exact hbel.alloc hbel.size _⟩
      case measure => simp [intOf] <;> omega
    · obtain rfl : i = k := by omega
      rw [hzD] at hb
      clear hg hzD
      by_cases p1 : p < 0
      · clear hb
        go_wp2
        go_ret2
        exact ⟨rfl, hbel.alloc hbel.size _⟩
      · have p2 : (i : Int) < p := hb.resolve_left p1
        clear hb
        go_wp2
        go_ret2
        exact ⟨rfl, hbel.alloc hbel.size _⟩
end Go.Proofs.Ytglcljlafioleaa

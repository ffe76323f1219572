import Derived.Test.YthijnhoggdoklaaLeadr
set_option linter.unusedVariables false
namespace Go.Proofs.Ythijnhoggdoklaa
open Go.RowKit

theorem chk_n {nb : Int} {w : World} {B : Nat} {A : Option Addr} {n : Nat} {l : List Nat} (h : Reads w B A n (vn .u32 l)) : Hid (rowsErr nb l = 0 → ∃ j : Nat, (n : Int) = j ∧ j ≤ 12) := fun h0 => by
  have h1 := (rowsErr_ok h0).1
  rw [h.nat_len] at h1
  exact ⟨n, rfl, by omega⟩
set_option maxHeartbeats 400000 in
theorem leader_Leader_err (nb : Int) (A : Option Addr) (n c : Nat) (l : List Nat) (x : Nat) (z : Int) (w : World) (h : Reads w w.heap.size A n (vn .u32 l)) (hw : ∀ x ∈ l, x < 4294967296) (hx : x < 4294967296) (hz : Hid (chkErr nb l x n = z)) (h0 : (z != 0) = true) :
    Calls Try.prog 28 #[.int .i64 nb, .slice A n c, .int .u32 (x : Int)] w (Ret w (.tuple #[.int .u32 0, .int .i64 z])) := by
  have c1 := leader_wrong nb A n c l x n z w h hw (chk_n h) hx hz
  go_enter Try.func28, Try.ntmps28
  go_wp2_with (go_at_call 42; refine c1.mono ?_; rintro e w' ⟨rfl, rfl⟩)
  go_ret2
  exact ⟨rfl, rfl⟩
set_option maxHeartbeats 400000 in
theorem leader_Leader (nb : Nat) (A : Option Addr) (n c : Nat) (l : List Nat) (x : Nat) (o : Option Nat) (w : World) (h : Reads w w.heap.size A n (vn .u32 l)) (hw : ∀ x ∈ l, x < 4294967296) (hx : x < 4294967296) (hn : n ≤ 8) (hm : nb ≤ 12) (hz : Hid (chkErr nb l x n = 0)) (ho : Hid (lead l n (2 ^ nb) x = o)) :
    Calls Try.prog 28 #[.int .i64 (nb : Int), .slice A n c, .int .u32 (x : Int)] w (RetB w (.tuple #[.int .u32 ((o.getD 0 : Nat) : Int), .int .i64 (if o.isSome = true then 0 else 5)])) := by
  have c1 := leader_wrong nb A n c l x n 0 w h hw (chk_n h) hx hz
  have c2 := leader_leaders nb A n c l w h hw hn hm
  cases o with
  | none =>
    go_enter Try.func28, Try.ntmps28
    go_wp2_with (first | (go_at_call 42; refine c1.mono ?_; rintro e w' ⟨rfl, rfl⟩) | (go_at_call 48; refine c2.mono ?_; rintro e w1 ⟨b, rfl, hmap, hb1⟩; have hlook := hmap.look_ok (t := 63) Try.underlying63 Try.underlying22 Try.underlying22 (Try.zeroValue22 _) x hx; rw [ho.out] at hlook))
    go_ret2
    exact ⟨rfl, hb1⟩
  | some v =>
    go_enter Try.func28, Try.ntmps28
    go_wp2_with (first | (go_at_call 42; refine c1.mono ?_; rintro e w' ⟨rfl, rfl⟩) | (go_at_call 48; refine c2.mono ?_; rintro e w1 ⟨b, rfl, hmap, hb1⟩; have hlook := hmap.look_ok (t := 63) Try.underlying63 Try.underlying22 Try.underlying22 (Try.zeroValue22 _) x hx; rw [ho.out] at hlook))
    go_ret2
    exact ⟨rfl, hb1⟩
set_option maxHeartbeats 400000 in
theorem LeaderTells_walk (nb : Int) (A : Option Addr) (n c : Nat) (l : List Nat) (x : Nat) (w : World) (_ : (Lit.int .i64 nb).wf = true) (h : Reads w w.heap.size A n (vn .u32 l)) (hw : ∀ x ∈ l, x < 4294967296) (_ : n * 4 ≤ reachBytes) (hx : x < 4294967296) :
    Calls Try.prog 8 #[.int .i64 nb, .slice A n c, .int .u32 (x : Int)] w (LawTrue w) := by
  by_cases h0 : chkErr nb l x n = 0
  · have hn := chk_len h h0
    obtain ⟨_, m, rfl, hm, _⟩ := rowsErr_ok (chkErr_ok h0).1
    obtain ⟨o, ho⟩ : ∃ o, lead l n (2 ^ m) x = o := ⟨_, rfl⟩
    have c1 := leader_Leader m A n c l x o w h hw hx hn hm h0 ho
    have c2 := fun (w' : World) (hb : Below w.heap.size w w') => law_checked m A n c l x n 0 w' ((h.below hb).more hb.size) hw (chk_n h) hx h0
    have c3 := fun (w' : World) (hb : Below w.heap.size w w') => ref_Leader m A n c l x o w' (h.below hb) hw hn hm ho
    clear h0 ho
    cases o with
    | none =>
      go_enter Try.func8, Try.ntmps8
      go_wp2_with (first | (go_at_call 28; refine c1.mono ?_; rintro e w1 ⟨rfl, hb1⟩; have c2 := c2 w1 hb1; have c3 := c3 w1 hb1) | (go_at_call 18; refine c2.mono ?_; rintro e w' ⟨rfl, rfl⟩) | (go_at_call 25; refine c3.mono ?_; rintro e w' ⟨rfl, rfl⟩))
      go_ret
      exact ⟨rfl, hb1⟩
    | some v =>
      go_enter Try.func8, Try.ntmps8
      go_wp2_with (first | (go_at_call 28; refine c1.mono ?_; rintro e w1 ⟨rfl, hb1⟩; have c2 := c2 w1 hb1; have c3 := c3 w1 hb1) | (go_at_call 18; refine c2.mono ?_; rintro e w' ⟨rfl, rfl⟩) | (go_at_call 25; refine c3.mono ?_; rintro e w' ⟨rfl, rfl⟩))
      go_ret
      exact ⟨rfl, hb1⟩
  · have hz : (chkErr nb l x n != 0) = true := by simpa using h0
    have c1 := leader_Leader_err nb A n c l x (chkErr nb l x n) w h hw hx rfl hz
    have c2 := law_checked nb A n c l x n (chkErr nb l x n) w h hw (chk_n h) hx rfl
    clear h0
    generalize chkErr nb l x n = z at *
    go_enter Try.func8, Try.ntmps8
    go_wp2_with (first | (go_at_call 28; refine c1.mono ?_; rintro e w1 ⟨rfl, rfl⟩) | (go_at_call 18; refine c2.mono ?_; rintro e w' ⟨rfl, rfl⟩))
    go_ret
    exact .same _
end Go.Proofs.Ythijnhoggdoklaa

import Derived.Test.YthijnhoggdoklaaLeadl
set_option linter.unusedVariables false
namespace Go.Proofs.Ythijnhoggdoklaa
open Go.RowKit

set_option maxHeartbeats 400000 in
theorem leader_Fix_err (nb : Int) (A : Option Addr) (n c : Nat) (l : List Nat) (x : Nat) (z : Int) (w : World) (h : Reads w w.heap.size A n (vn .u32 l)) (hw : ∀ x ∈ l, x < 4294967296) (hx : x < 4294967296) (hz : Hid (chkErr nb l x nb = z)) (h0 : (z != 0) = true) :
    Calls Try.prog 24 #[.int .i64 nb, .slice A n c, .int .u32 (x : Int)] w (Ret w (.tuple #[.int .u32 0, .int .i64 z])) := by
  have c1 := leader_wrong nb A n c l x nb z w h hw chk_nb hx hz
  go_enter Try.func24, Try.ntmps24
  go_wp2_with (go_at_call 42; refine c1.mono ?_; rintro e w' ⟨rfl, rfl⟩)
  go_ret2
  exact ⟨rfl, rfl⟩
set_option maxHeartbeats 400000 in
theorem leader_Fix (nb : Nat) (A : Option Addr) (n c : Nat) (l : List Nat) (x M v : Nat) (o : Option Nat) (w : World) (h : Reads w w.heap.size A n (vn .u32 l)) (hw : ∀ x ∈ l, x < 4294967296) (hx : x < 4294967296) (hn : n ≤ 8) (hm : nb ≤ 12) (hz : Hid (chkErr nb l x nb = 0)) (hM : Hid (markF l x n = M)) (hM2 : M < 256) (ho : Hid (lead l n (2 ^ nb) M = o)) (hv : Hid (o.getD 0 = v)) :
    Calls Try.prog 24 #[.int .i64 (nb : Int), .slice A n c, .int .u32 (x : Int)] w (RetB w (.tuple #[.int .u32 (bits .xor .u32 (x : Int) (v : Int)), .int .i64 0])) := by
  have c1 := leader_wrong nb A n c l x nb 0 w h hw chk_nb hx hz
  have c2 := leader_leaders nb A n c l w h hw hn hm
  have c3 := fun (w' : World) (hb : Below w.heap.size w w') => leader_mark A n c l x w' (h.below hb) hn hw hx
  rw [hM.out] at c3
  go_enter Try.func24, Try.ntmps24
  go_wp2_with (first
    | (go_at_call 42; refine c1.mono ?_; rintro e w' ⟨rfl, rfl⟩)
    | (go_at_call 48; refine c2.mono ?_; rintro e w1 ⟨b, rfl, hmap, hb1⟩; have c3 := c3 w1 hb1)
    | (go_at_call 43; refine c3.mono ?_; rintro e w' ⟨rfl, q, rfl⟩; have hlook := (hmap.drewN q).look (t := 63) Try.underlying63 Try.underlying22 Try.underlying22 (Try.zeroValue22 _) M (by omega); rw [ho.out, hv.out] at hlook))
  go_ret2
  exact ⟨rfl, below_drewN hb1 _⟩
set_option maxHeartbeats 400000 in
theorem LeaderFixes_walk (nb : Int) (A : Option Addr) (n c : Nat) (l : List Nat) (x : Nat) (w : World) (_ : (Lit.int .i64 nb).wf = true) (h : Reads w w.heap.size A n (vn .u32 l)) (hw : ∀ x ∈ l, x < 4294967296) (_ : n * 4 ≤ reachBytes) (hx : x < 4294967296) :
    Calls Try.prog 6 #[.int .i64 nb, .slice A n c, .int .u32 (x : Int)] w (LawTrue w) := by
  by_cases h0 : chkErr nb l x nb = 0
  · have hn := chk_len h h0
    obtain ⟨_, m, rfl, hm, _⟩ := rowsErr_ok (chkErr_ok h0).1
    obtain ⟨M, hM⟩ : ∃ M, markF l x n = M := ⟨_, rfl⟩
    have hM2 : M < 256 := by
      have h1 := markF_lt l x n
      have h2 := Nat.pow_le_pow_right (n := 2) (by omega) hn
      omega
    obtain ⟨o, ho⟩ : ∃ o, lead l n (2 ^ m) M = o := ⟨_, rfl⟩
    obtain ⟨v, hv⟩ : ∃ v, o.getD 0 = v := ⟨_, rfl⟩
    have c1 := leader_Fix m A n c l x M v o w h hw hx hn hm h0 hM hM2 ho hv
    have c2 := fun (w' : World) (hb : Below w.heap.size w w') => law_checked m A n c l x m 0 w' ((h.below hb).more hb.size) hw chk_nb hx h0
    have c4 := fun (w' : World) (hb : Below w.heap.size w w') => ref_Mark A n c l x w' (h.below hb) hn hw hx
    have c3 := fun (w' : World) (hb : Below w.heap.size w w') => ref_Leader m A n c l M o w' (h.below hb) hw hn hm ho
    rw [hM] at c4
    rw [hv] at c3
    clear h0 ho hv hM
    generalize o.isSome = ok at *
    go_enter Try.func6, Try.ntmps6
    go_wp2_with (first | (go_at_call 24; refine c1.mono ?_; rintro e w1 ⟨rfl, hb1⟩; have c2 := c2 w1 hb1; have c3 := c3 w1 hb1; have c4 := c4 w1 hb1) | (go_at_call 18; refine c2.mono ?_; rintro e w' ⟨rfl, rfl⟩) | (go_at_call 19; refine c4.mono ?_; rintro e w' ⟨rfl, rfl⟩) | (go_at_call 25; refine c3.mono ?_; rintro e w' ⟨rfl, rfl⟩))
    go_ret
    exact ⟨rfl, hb1⟩
  · have hz : (chkErr nb l x nb != 0) = true := by simpa using h0
    have c1 := leader_Fix_err nb A n c l x (chkErr nb l x nb) w h hw hx rfl hz
    have c2 := law_checked nb A n c l x nb (chkErr nb l x nb) w h hw chk_nb hx rfl
    clear h0
    generalize chkErr nb l x nb = z at *
    go_enter Try.func6, Try.ntmps6
    go_wp2_with (first | (go_at_call 24; refine c1.mono ?_; rintro e w1 ⟨rfl, rfl⟩) | (go_at_call 18; refine c2.mono ?_; rintro e w' ⟨rfl, rfl⟩))
    go_ret
    exact .same _
end Go.Proofs.Ythijnhoggdoklaa

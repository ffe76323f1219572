/-
  (*stripe.Array).do.
-/
import Derived.Test.YtglcljlafioleaaArl
set_option linter.unusedVariables false
namespace Go.Proofs.Ytglcljlafioleaa
open Go.RowKit

theorem OnlyB.alloc {w w' : World} {hb d : Nat} {gr : Nat → Nat} (h : OnlyB w w' hb d gr) (o : Obj) : OnlyB w (w'.alloc o) hb d gr :=
  ⟨h.os, h.tape, h.output, Nat.le_trans h.size (by simp), fun b hb1 h2 hn => by
    rw [← h.block b hb1 h2 hn]
    exact ((Below.refl w'.heap.size w').alloc (Nat.le_refl _) o).block b (Nat.lt_of_lt_of_le hb1 h.size)⟩
/-- what a move does: what was read, the code, the discs, which one is lost -/
structure MvT where
  v : Nat
  e : Nat
  f : Nat → Nat → Nat
  z : Int
def doMv (d : Nat) (f : Nat → Nat → Nat) (z kind block : Int) (v : Nat) : MvT :=
  if kind < 1 ∨ 4 < kind then ⟨0, 6, f, z⟩
  else if block < 0 ∨ (if kind = 3 ∨ kind = 4 then (d : Int) else 24) ≤ block then ⟨0, 2, f, z⟩
  else if kind = 2 then ⟨readD f z d block.toNat, 0, f, z⟩
  else if kind = 3 then (if 0 ≤ z then ⟨0, 7, f, z⟩ else ⟨0, 0, zeroTo f block.toNat 0 (rowsD d), block⟩)
  else if kind = 4 then (if block = z then ⟨0, 0, renewTo f block.toNat d (rowsD d), -1⟩ else ⟨0, 7, f, z⟩)
  else ⟨0, 0, writeD f z d block.toNat v, z⟩
def DoMP (w : World) (b0 hb d : Nat) (gr : Nat → Nat) (t : MvT) (e : Ending) (w' : World) : Prop :=
  e = .returned (.tuple #[.int .u8 (t.v : Int), .int .i64 (t.e : Int)]) ∧ TabD w' b0 hb (rowsD d) d d gr (.int .i64 t.z) t.f ∧ OnlyB w w' hb d gr
set_option maxHeartbeats 800000 in
theorem stripe_doK (b0 hb d : Nat) (z : Int) (gr : Nat → Nat) (f : Nat → Nat → Nat) (w : World) (h : TabD w b0 hb (rowsD d) d d gr (.int .i64 z) f) (hf : Hid (∀ a b, f a b < 256)) (h3 : 3 ≤ d) (h6 : d ≤ 6) (kind block : Int) (v : Nat) (hk : kind < 1 ∨ 4 < kind) :
    Calls Try.prog 44 #[.pointer (some ⟨hb, 0, none⟩), .agg #[.int .i64 kind, .int .i64 block, .int .u8 (v : Int)]] w (DoMP w b0 hb d gr (doMv d f z kind block v)) := by
  have HD : Hid (doMv d f z kind block v = ⟨0, 6, f, z⟩) := by unfold Hid doMv; rw [if_pos hk]
  have hB := (Below.refl w.heap.size w).alloc (Nat.le_refl _) (.cells #[.int .i64 kind, .int .i64 block, .int .u8 (v : Int)] 99)
  have HT := Lib.hid (h.same hB)
  have t3 : (kind == 3) = false := by simp; omega
  have t4 : (kind == 4) = false := by simp; omega
  have HO := Lib.hid ((OnlyB.refl w hb d gr).alloc (.cells #[.int .i64 kind, .int .i64 block, .int .u8 (v : Int)] 99))
  rw [HD.out]
  clear h hB
  rcases hk with hk | hk
  all_goals
    (first | (have k1 : ¬ kind < 1 := by omega) | skip)
    go_enter Try.func44, Try.ntmps44
    go_wp2
    go_ret2
    exact ⟨rfl, HT.out, HO.out⟩
set_option maxHeartbeats 800000 in
theorem stripe_doB1 (b0 hb d : Nat) (z : Int) (gr : Nat → Nat) (f : Nat → Nat → Nat) (w : World) (h : TabD w b0 hb (rowsD d) d d gr (.int .i64 z) f) (hf : Hid (∀ a b, f a b < 256)) (h3 : 3 ≤ d) (h6 : d ≤ 6) (block : Int) (v : Nat) (hk : block < 0 ∨ 24 ≤ block) :
    Calls Try.prog 44 #[.pointer (some ⟨hb, 0, none⟩), .agg #[.int .i64 1, .int .i64 block, .int .u8 (v : Int)]] w (DoMP w b0 hb d gr (doMv d f z 1 block v)) := by
  have HD : Hid (doMv d f z 1 block v = ⟨0, 2, f, z⟩) := by unfold Hid doMv; rw [if_neg (by omega), if_pos (by simpa using hk)]
  have hB := (Below.refl w.heap.size w).alloc (Nat.le_refl _) (.cells #[.int .i64 1, .int .i64 block, .int .u8 (v : Int)] 99)
  have ht := h.same hB
  have c0 := ht.tab
  have HT := Lib.hid ht
  have HO := Lib.hid ((OnlyB.refl w hb d gr).alloc (.cells #[.int .i64 1, .int .i64 block, .int .u8 (v : Int)] 99))
  rw [HD.out]
  clear h hB ht
  by_cases hk0 : block < 0
  · go_enter Try.func44, Try.ntmps44
    go_wp2
    go_ret2
    exact ⟨rfl, HT.out, HO.out⟩
  · have hk1 : 24 ≤ block := hk.resolve_left hk0
    clear hk
    go_enter Try.func44, Try.ntmps44
    go_wp2
    go_ret2
    exact ⟨rfl, HT.out, HO.out⟩
set_option maxHeartbeats 800000 in
theorem stripe_doB2 (b0 hb d : Nat) (z : Int) (gr : Nat → Nat) (f : Nat → Nat → Nat) (w : World) (h : TabD w b0 hb (rowsD d) d d gr (.int .i64 z) f) (hf : Hid (∀ a b, f a b < 256)) (h3 : 3 ≤ d) (h6 : d ≤ 6) (block : Int) (v : Nat) (hk : block < 0 ∨ 24 ≤ block) :
    Calls Try.prog 44 #[.pointer (some ⟨hb, 0, none⟩), .agg #[.int .i64 2, .int .i64 block, .int .u8 (v : Int)]] w (DoMP w b0 hb d gr (doMv d f z 2 block v)) := by
  have HD : Hid (doMv d f z 2 block v = ⟨0, 2, f, z⟩) := by unfold Hid doMv; rw [if_neg (by omega), if_pos (by simpa using hk)]
  have hB := (Below.refl w.heap.size w).alloc (Nat.le_refl _) (.cells #[.int .i64 2, .int .i64 block, .int .u8 (v : Int)] 99)
  have ht := h.same hB
  have c0 := ht.tab
  have HT := Lib.hid ht
  have HO := Lib.hid ((OnlyB.refl w hb d gr).alloc (.cells #[.int .i64 2, .int .i64 block, .int .u8 (v : Int)] 99))
  rw [HD.out]
  clear h hB ht
  by_cases hk0 : block < 0
  · go_enter Try.func44, Try.ntmps44
    go_wp2
    go_ret2
    exact ⟨rfl, HT.out, HO.out⟩
  · have hk1 : 24 ≤ block := hk.resolve_left hk0
    clear hk
    go_enter Try.func44, Try.ntmps44
    go_wp2
    go_ret2
    exact ⟨rfl, HT.out, HO.out⟩
set_option maxHeartbeats 800000 in
theorem stripe_doB3 (b0 hb d : Nat) (z : Int) (gr : Nat → Nat) (f : Nat → Nat → Nat) (w : World) (h : TabD w b0 hb (rowsD d) d d gr (.int .i64 z) f) (hf : Hid (∀ a b, f a b < 256)) (h3 : 3 ≤ d) (h6 : d ≤ 6) (block : Int) (v : Nat) (hk : block < 0 ∨ (d : Int) ≤ block) :
    Calls Try.prog 44 #[.pointer (some ⟨hb, 0, none⟩), .agg #[.int .i64 3, .int .i64 block, .int .u8 (v : Int)]] w (DoMP w b0 hb d gr (doMv d f z 3 block v)) := by
  have HD : Hid (doMv d f z 3 block v = ⟨0, 2, f, z⟩) := by unfold Hid doMv; rw [if_neg (by omega), if_pos (by simpa using hk)]
  have hB := (Below.refl w.heap.size w).alloc (Nat.le_refl _) (.cells #[.int .i64 3, .int .i64 block, .int .u8 (v : Int)] 99)
  have ht := h.same hB
  have c0 := ht.tab
  have HT := Lib.hid ht
  have HO := Lib.hid ((OnlyB.refl w hb d gr).alloc (.cells #[.int .i64 3, .int .i64 block, .int .u8 (v : Int)] 99))
  rw [HD.out]
  clear h hB ht
  by_cases hk0 : block < 0
  · go_enter Try.func44, Try.ntmps44
    go_wp2
    go_ret2
    exact ⟨rfl, HT.out, HO.out⟩
  · have hk1 : (d : Int) ≤ block := hk.resolve_left hk0
    clear hk
    go_enter Try.func44, Try.ntmps44
    go_wp2
    go_ret2
    exact ⟨rfl, HT.out, HO.out⟩
set_option maxHeartbeats 800000 in
theorem stripe_doB4 (b0 hb d : Nat) (z : Int) (gr : Nat → Nat) (f : Nat → Nat → Nat) (w : World) (h : TabD w b0 hb (rowsD d) d d gr (.int .i64 z) f) (hf : Hid (∀ a b, f a b < 256)) (h3 : 3 ≤ d) (h6 : d ≤ 6) (block : Int) (v : Nat) (hk : block < 0 ∨ (d : Int) ≤ block) :
    Calls Try.prog 44 #[.pointer (some ⟨hb, 0, none⟩), .agg #[.int .i64 4, .int .i64 block, .int .u8 (v : Int)]] w (DoMP w b0 hb d gr (doMv d f z 4 block v)) := by
  have HD : Hid (doMv d f z 4 block v = ⟨0, 2, f, z⟩) := by unfold Hid doMv; rw [if_neg (by omega), if_pos (by simpa using hk)]
  have hB := (Below.refl w.heap.size w).alloc (Nat.le_refl _) (.cells #[.int .i64 4, .int .i64 block, .int .u8 (v : Int)] 99)
  have ht := h.same hB
  have c0 := ht.tab
  have HT := Lib.hid ht
  have HO := Lib.hid ((OnlyB.refl w hb d gr).alloc (.cells #[.int .i64 4, .int .i64 block, .int .u8 (v : Int)] 99))
  rw [HD.out]
  clear h hB ht
  by_cases hk0 : block < 0
  · go_enter Try.func44, Try.ntmps44
    go_wp2
    go_ret2
    exact ⟨rfl, HT.out, HO.out⟩
  · have hk1 : (d : Int) ≤ block := hk.resolve_left hk0
    clear hk
    go_enter Try.func44, Try.ntmps44
    go_wp2
    go_ret2
    exact ⟨rfl, HT.out, HO.out⟩
set_option maxHeartbeats 1600000 in
theorem stripe_do2 (b0 hb d : Nat) (z : Int) (gr : Nat → Nat) (f : Nat → Nat → Nat) (w : World) (h : TabD w b0 hb (rowsD d) d d gr (.int .i64 z) f) (hf : Hid (∀ a b, f a b < 256)) (h3 : 3 ≤ d) (h6 : d ≤ 6) (b v : Nat) (hb24 : b < 24) (hv : v < 256) :
    Calls Try.prog 44 #[.pointer (some ⟨hb, 0, none⟩), .agg #[.int .i64 2, .int .i64 (b : Int), .int .u8 (v : Int)]] w (DoMP w b0 hb d gr (doMv d f z 2 (b : Int) v)) := by
  have HD : Hid (doMv d f z 2 (b : Int) v = ⟨readD f z d b, 0, f, z⟩) := by
    unfold Hid doMv
    rw [if_neg (by omega), if_neg (by simp; omega)]
    simp
  have hB := (Below.refl w.heap.size w).alloc (Nat.le_refl _) (.cells #[.int .i64 2, .int .i64 (b : Int), .int .u8 (v : Int)] 99)
  have ht := h.same hB
  have c0 := ht.tab
  have HO := Lib.hid ((OnlyB.refl w hb d gr).alloc (.cells #[.int .i64 2, .int .i64 (b : Int), .int .u8 (v : Int)] 99))
  have hr := rowsD_is h3 h6
  have i0 : (0 : Int) ≤ (b : Int) := by omega
  have i1 : (b : Int) < 24 := by omega
  rw [HD.out]
  have HT := Lib.hid ht
  have cr := stripe_Read b0 hb d b z gr f _ ht hf h3 h6 hb24
  clear ht hr
  clear h hB
  go_enter Try.func44, Try.ntmps44
  go_wp2_with (go_at_call 52; refine cr.mono ?_; clear cr; rintro e w' ⟨rfl, rfl⟩)
  go_ret2
  exact ⟨rfl, HT.out, HO.out⟩
set_option maxHeartbeats 1600000 in
theorem stripe_do1 (b0 hb d : Nat) (z : Int) (gr : Nat → Nat) (f : Nat → Nat → Nat) (w : World) (h : TabD w b0 hb (rowsD d) d d gr (.int .i64 z) f) (hf : Hid (∀ a b, f a b < 256)) (h3 : 3 ≤ d) (h6 : d ≤ 6) (b v : Nat) (hb24 : b < 24) (hv : v < 256) :
    Calls Try.prog 44 #[.pointer (some ⟨hb, 0, none⟩), .agg #[.int .i64 1, .int .i64 (b : Int), .int .u8 (v : Int)]] w (DoMP w b0 hb d gr (doMv d f z 1 (b : Int) v)) := by
  have HD : Hid (doMv d f z 1 (b : Int) v = ⟨0, 0, writeD f z d b v, z⟩) := by
    unfold Hid doMv
    rw [if_neg (by omega), if_neg (by simp; omega)]
    simp
  have hB := (Below.refl w.heap.size w).alloc (Nat.le_refl _) (.cells #[.int .i64 1, .int .i64 (b : Int), .int .u8 (v : Int)] 99)
  have ht := h.same hB
  have c0 := ht.tab
  have HO := Lib.hid ((OnlyB.refl w hb d gr).alloc (.cells #[.int .i64 1, .int .i64 (b : Int), .int .u8 (v : Int)] 99))
  have hr := rowsD_is h3 h6
  have i0 : (0 : Int) ≤ (b : Int) := by omega
  have i1 : (b : Int) < 24 := by omega
  rw [HD.out]
  have cr := stripe_Write b0 hb d b v z gr f _ ht hf h3 h6 hb24 hv
  clear ht hr
  clear h hB
  go_enter Try.func44, Try.ntmps44
  go_wp2_with (go_at_call 55; refine cr.mono ?_; clear cr; rintro e w' ⟨rfl, ht2, ho2⟩)
  go_ret2
  exact ⟨rfl, ht2, HO.out.trans ho2.toB⟩
set_option maxHeartbeats 1600000 in
theorem stripe_do3 (b0 hb d : Nat) (z : Int) (gr : Nat → Nat) (f : Nat → Nat → Nat) (w : World) (h : TabD w b0 hb (rowsD d) d d gr (.int .i64 z) f) (hf : Hid (∀ a b, f a b < 256)) (h3 : 3 ≤ d) (h6 : d ≤ 6) (b v : Nat) (hb24 : b < d) (hv : v < 256) :
    Calls Try.prog 44 #[.pointer (some ⟨hb, 0, none⟩), .agg #[.int .i64 3, .int .i64 (b : Int), .int .u8 (v : Int)]] w (DoMP w b0 hb d gr (doMv d f z 3 (b : Int) v)) := by
  have hB := (Below.refl w.heap.size w).alloc (Nat.le_refl _) (.cells #[.int .i64 3, .int .i64 (b : Int), .int .u8 (v : Int)] 99)
  have ht := h.same hB
  have c0 := ht.tab
  have HO := Lib.hid ((OnlyB.refl w hb d gr).alloc (.cells #[.int .i64 3, .int .i64 (b : Int), .int .u8 (v : Int)] 99))
  have hr := rowsD_is h3 h6
  have i0 : (0 : Int) ≤ (b : Int) := by omega
  have i1 : (b : Int) < (d : Int) := by omega
  by_cases hz : 0 ≤ z
  · have HD : Hid (doMv d f z 3 (b : Int) v = ⟨0, 7, f, z⟩) := by
      unfold Hid doMv
      rw [if_neg (by omega), if_neg (by simp; omega)]
      first | (simp [hz]; done) | (rw [← hz]; simp)
    have cr := (stripe_Lose b0 hb (rowsD d) d b z gr f _ ht h6 hb24 (by omega)).mono (fun e w' (hl : LoseP (w.alloc (.cells #[.int .i64 3, .int .i64 (b : Int), .int .u8 (v : Int)] 99)) b0 hb (rowsD d) d gr z f b e w') => (by unfold LoseP at hl; rw [if_pos hz] at hl; exact hl : e = .returned (.int .i64 7) ∧ w' = (w.alloc (.cells #[.int .i64 3, .int .i64 (b : Int), .int .u8 (v : Int)] 99))))
    have HT := Lib.hid ht
    rw [HD.out]
    clear h hB ht hr hz
    go_enter Try.func44, Try.ntmps44
    go_wp2_with (go_at_call 53; refine cr.mono ?_; clear cr; rintro e w' ⟨rfl, rfl⟩)
    go_ret2
    exact ⟨rfl, HT.out, HO.out⟩
  · have HD : Hid (doMv d f z 3 (b : Int) v = ⟨0, 0, zeroTo f b 0 (rowsD d), (b : Int)⟩) := by
      unfold Hid doMv
      rw [if_neg (by omega), if_neg (by simp; omega)]
      first | (simp [hz]; done) | (rw [← hz]; simp)
    have cr := (stripe_Lose b0 hb (rowsD d) d b z gr f _ ht h6 hb24 (by omega)).mono (fun e w' (hl : LoseP (w.alloc (.cells #[.int .i64 3, .int .i64 (b : Int), .int .u8 (v : Int)] 99)) b0 hb (rowsD d) d gr z f b e w') => (by unfold LoseP at hl; rw [if_neg hz] at hl; exact hl : e = .returned (.int .i64 0) ∧ TabD w' b0 hb (rowsD d) d d gr (.int .i64 (b : Int)) (zeroTo f b 0 (rowsD d)) ∧ OnlyB (w.alloc (.cells #[.int .i64 3, .int .i64 (b : Int), .int .u8 (v : Int)] 99)) w' hb d gr))
    have HT := Lib.hid ht
    rw [HD.out]
    clear h hB ht hr hz
    go_enter Try.func44, Try.ntmps44
    go_wp2_with (go_at_call 53; refine cr.mono ?_; clear cr; rintro e w' ⟨rfl, ht2, ho2⟩)
    go_ret2
    exact ⟨rfl, ht2, HO.out.trans ho2⟩
set_option maxHeartbeats 1600000 in
theorem stripe_do4 (b0 hb d : Nat) (z : Int) (gr : Nat → Nat) (f : Nat → Nat → Nat) (w : World) (h : TabD w b0 hb (rowsD d) d d gr (.int .i64 z) f) (hf : Hid (∀ a b, f a b < 256)) (h3 : 3 ≤ d) (h6 : d ≤ 6) (b v : Nat) (hb24 : b < d) (hv : v < 256) :
    Calls Try.prog 44 #[.pointer (some ⟨hb, 0, none⟩), .agg #[.int .i64 4, .int .i64 (b : Int), .int .u8 (v : Int)]] w (DoMP w b0 hb d gr (doMv d f z 4 (b : Int) v)) := by
  have hB := (Below.refl w.heap.size w).alloc (Nat.le_refl _) (.cells #[.int .i64 4, .int .i64 (b : Int), .int .u8 (v : Int)] 99)
  have ht := h.same hB
  have c0 := ht.tab
  have HO := Lib.hid ((OnlyB.refl w hb d gr).alloc (.cells #[.int .i64 4, .int .i64 (b : Int), .int .u8 (v : Int)] 99))
  have hr := rowsD_is h3 h6
  have i0 : (0 : Int) ≤ (b : Int) := by omega
  have i1 : (b : Int) < (d : Int) := by omega
  by_cases hz : (b : Int) = z
  · have HD : Hid (doMv d f z 4 (b : Int) v = ⟨0, 0, renewTo f b d (rowsD d), -1⟩) := by
      unfold Hid doMv
      rw [if_neg (by omega), if_neg (by simp; omega)]
      first | (simp [hz]; done) | (rw [← hz]; simp)
    have cr := (stripe_Renew b0 hb (rowsD d) d b z gr f _ ht hf h6 hb24 (by omega)).mono (fun e w' (hl : RenewP (w.alloc (.cells #[.int .i64 4, .int .i64 (b : Int), .int .u8 (v : Int)] 99)) b0 hb (rowsD d) d gr z f b e w') => (by unfold RenewP at hl; rw [if_pos hz] at hl; exact hl : e = .returned (.int .i64 0) ∧ TabD w' b0 hb (rowsD d) d d gr (.int .i64 (-1)) (renewTo f b d (rowsD d)) ∧ OnlyB (w.alloc (.cells #[.int .i64 4, .int .i64 (b : Int), .int .u8 (v : Int)] 99)) w' hb d gr))
    have HT := Lib.hid ht
    rw [HD.out]
    clear h hB ht hr hz
    go_enter Try.func44, Try.ntmps44
    go_wp2_with (go_at_call 54; refine cr.mono ?_; clear cr; rintro e w' ⟨rfl, ht2, ho2⟩)
    go_ret2
    exact ⟨rfl, ht2, HO.out.trans ho2⟩
  · have HD : Hid (doMv d f z 4 (b : Int) v = ⟨0, 7, f, z⟩) := by
      unfold Hid doMv
      rw [if_neg (by omega), if_neg (by simp; omega)]
      first | (simp [hz]; done) | (rw [← hz]; simp)
    have cr := (stripe_Renew b0 hb (rowsD d) d b z gr f _ ht hf h6 hb24 (by omega)).mono (fun e w' (hl : RenewP (w.alloc (.cells #[.int .i64 4, .int .i64 (b : Int), .int .u8 (v : Int)] 99)) b0 hb (rowsD d) d gr z f b e w') => (by unfold RenewP at hl; rw [if_neg hz] at hl; exact hl : e = .returned (.int .i64 7) ∧ w' = (w.alloc (.cells #[.int .i64 4, .int .i64 (b : Int), .int .u8 (v : Int)] 99))))
    have HT := Lib.hid ht
    rw [HD.out]
    clear h hB ht hr hz
    go_enter Try.func44, Try.ntmps44
    go_wp2_with (go_at_call 54; refine cr.mono ?_; clear cr; rintro e w' ⟨rfl, rfl⟩)
    go_ret2
    exact ⟨rfl, HT.out, HO.out⟩
end Go.Proofs.Ytglcljlafioleaa

import Derived.Test.YthijnhoggdoklaaLeader
import Derived.Test.YthijnhoggdoklaaMapN
set_option linter.unusedVariables false
namespace Go.Proofs.Ythijnhoggdoklaa
open Go.RowKit

/-- the leader of a mark among the first words -/
def lead (l : List Nat) (n : Nat) : Nat → Nat → Option Nat
  | 0, _ => none
  | W + 1, m => if m = markF l W n then (match lead l n W m with | none => some W | some v => if pop W < pop v then some W else some v) else lead l n W m
def Led (l : List Nat) (n W m : Nat) : Option Nat → Prop
  | none => ∀ x, x < W → markF l x n ≠ m
  | some v => v < W ∧ markF l v n = m ∧ ∀ x, x < W → markF l x n = m → pop v < pop x ∨ (pop v = pop x ∧ v ≤ x)
theorem led_mk {l : List Nat} {n W m v : Nat} (h1 : v < W) (h2 : markF l v n = m) (h3 : ∀ x, x < W → markF l x n = m → pop v < pop x ∨ (pop v = pop x ∧ v ≤ x)) : Led l n W m (some v) := ⟨h1, h2, h3⟩
theorem led_some' {l : List Nat} {n W m v : Nat} (h : Led l n W m (some v)) : v < W ∧ markF l v n = m ∧ ∀ x, x < W → markF l x n = m → pop v < pop x ∨ (pop v = pop x ∧ v ≤ x) := h
theorem led_none' {l : List Nat} {n W m : Nat} (h : Led l n W m none) : ∀ x, x < W → markF l x n ≠ m := h
theorem led_nil {l : List Nat} {n W m : Nat} (h : ∀ x, x < W → markF l x n ≠ m) : Led l n W m none := h
theorem lead_led (l : List Nat) (n W m : Nat) : Led l n W m (lead l n W m) := by
  induction W with
  | zero => exact led_nil fun x hx => absurd hx (by omega)
  | succ W ih =>
    by_cases hm : m = markF l W n
    · cases h : lead l n W m with
      | none =>
        rw [h] at ih
        have ih := led_none' ih
        have e : lead l n (W + 1) m = some W := by rw [lead, if_pos hm, h]
        rw [e]
        refine led_mk (by omega) hm.symm fun x hx hxm => ?_
        rcases Nat.lt_or_ge x W with h1 | h1
        · exact absurd hxm (ih x h1)
        · obtain rfl : x = W := by omega
          exact .inr ⟨rfl, Nat.le_refl _⟩
      | some v =>
        rw [h] at ih
        obtain ⟨h1, h2, h3⟩ := led_some' ih
        by_cases hp : pop W < pop v
        · have e : lead l n (W + 1) m = some W := by rw [lead, if_pos hm, h]; simp only [if_pos hp]
          rw [e]
          refine led_mk (by omega) hm.symm fun x hx hxm => ?_
          rcases Nat.lt_or_ge x W with h4 | h4
          · have h5 := h3 x h4 hxm
            generalize pop x = a at *
            generalize pop v = b at *
            generalize pop W = c at *
            omega
          · obtain rfl : x = W := by omega
            exact .inr ⟨rfl, Nat.le_refl _⟩
        · have e : lead l n (W + 1) m = some v := by rw [lead, if_pos hm, h]; simp only [if_neg hp]
          rw [e]
          refine led_mk (by omega) h2 fun x hx hxm => ?_
          rcases Nat.lt_or_ge x W with h4 | h4
          · exact h3 x h4 hxm
          · obtain rfl : x = W := by omega
            generalize pop x = a at *
            generalize pop v = b at *
            omega
    · have e : lead l n (W + 1) m = lead l n W m := by rw [lead, if_neg hm]
      rw [e]
      cases h : lead l n W m with
      | none =>
        rw [h] at ih
        have ih := led_none' ih
        refine led_nil fun x hx => ?_
        rcases Nat.lt_or_ge x W with h1 | h1
        · exact ih x h1
        · obtain rfl : x = W := by omega
          exact fun e => hm e.symm
      | some v =>
        rw [h] at ih
        obtain ⟨h1, h2, h3⟩ := led_some' ih
        refine led_mk (by omega) h2 fun x hx hxm => ?_
        rcases Nat.lt_or_ge x W with h4 | h4
        · exact h3 x h4 hxm
        · obtain rfl : x = W := by omega
          exact absurd hxm.symm hm
theorem led_some {l : List Nat} {n W m v : Nat} (h : Led l n W m (some v)) : lead l n W m = some v := by
  have h2 := lead_led l n W m
  cases e : lead l n W m with
  | none => rw [e] at h2; exact absurd (led_some' h).2.1 (led_none' h2 v (led_some' h).1)
  | some u =>
    rw [e] at h2
    obtain ⟨a1, a2, a3⟩ := led_some' h
    obtain ⟨b1, b2, b3⟩ := led_some' h2
    have a := a3 u b1 b2
    have b := b3 v a1 a2
    have : u = v := by
      clear h h2 a3 b3 e
      generalize pop u = pu at *
      generalize pop v = pv at *
      omega
    rw [this]
theorem led_none {l : List Nat} {n W m : Nat} (h : Led l n W m none) : lead l n W m = none := by
  have h2 := lead_led l n W m
  cases e : lead l n W m with
  | none => rfl
  | some u => rw [e] at h2; exact absurd (led_some' h2).2.1 (led_none' h u (led_some' h2).1)
theorem lead_lt {l : List Nat} {n W m v : Nat} (h : lead l n W m = some v) : v < W := by
  have h2 := lead_led l n W m
  rw [h] at h2
  exact (led_some' h2).1
theorem lead_new {l : List Nat} {n W : Nat} (h : lead l n W (markF l W n) = none) : (fun y => if y = markF l W n then some W else lead l n W y) = lead l n (W + 1) := by
  funext y
  rw [lead]
  by_cases hy : y = markF l W n
  · rw [if_pos hy, if_pos hy, hy, h]
  · rw [if_neg hy, if_neg hy]
theorem lead_less {l : List Nat} {n W v : Nat} (h : lead l n W (markF l W n) = some v) (hp : pop W < pop v) : (fun y => if y = markF l W n then some W else lead l n W y) = lead l n (W + 1) := by
  funext y
  rw [lead]
  by_cases hy : y = markF l W n
  · rw [if_pos hy, if_pos hy, hy, h]; simp [hp]
  · rw [if_neg hy, if_neg hy]
theorem lead_old {l : List Nat} {n W v : Nat} (h : lead l n W (markF l W n) = some v) (hp : ¬ pop W < pop v) : lead l n W = lead l n (W + 1) := by
  funext y
  rw [lead]
  by_cases hy : y = markF l W n
  · rw [if_pos hy, hy, h]; simp [hp]
  · rw [if_neg hy]

set_option maxHeartbeats 800000 in
theorem leader_leaders (nb : Nat) (A : Option Addr) (n c : Nat) (l : List Nat) (w : World) (h : Reads w w.heap.size A n (vn .u32 l)) (hw : ∀ x ∈ l, x < 4294967296) (hn : n ≤ 8) (hm : nb ≤ 12) :
    Calls Try.prog 48 #[.int .i64 (nb : Int), .slice A n c] w (fun e w' => ∃ b, e = .returned (.map (some b)) ∧ MapN Try.prog 22 22 w' b 4096 (lead l n (2 ^ nb)) ∧ Below w.heap.size w w') := by
  have hp12 := pow_le12 hm
  obtain ⟨p, hp⟩ : ∃ p, p = 2 ^ nb := ⟨_, rfl⟩
  have es := shl_int hm
  rw [← hp] at es hp12 ⊢
  clear hp
  have hmk := @run_makeMap Try.prog
  go_enter Try.func48, Try.ntmps48
  go_wp2
  rw [es]
  have hmap0 := MapN.made w Try.prog 22 22
  have hb0 : Below w.heap.size w (w.alloc (.map #[] 0)) := (Below.refl _ _).alloc (Nat.le_refl _) _
  go_loopw [13] (fun i wr => ∃ j : Nat, j ≤ p ∧ i = .int .u32 j ∧ MapN Try.prog 22 22 wr w.heap.size j (lead l n j) ∧ Below w.heap.size w wr) (fun i _ => p - (intOf i).toNat)
  case atStart => exact ⟨0, by omega, rfl, hmap0, hb0⟩
  case round =>
    clear hmap0 hb0
    obtain ⟨j, hj, rfl, hmap, hb⟩ := hrel
    by_cases hlt : j < p
    · have cm := leader_mark A n c l j wr (h.below hb) hn hw (by omega)
      have hM := markF_lt l j n
      have hM2 : 2 ^ n ≤ 256 := by have := Nat.pow_le_pow_right (n := 2) (by omega) hn; omega
      have hM3 : markF l j n < 256 := by omega
      clear hM hM2
      cases hq : lead l n j (markF l j n) with
      | none =>
        have HN := Lib.hid (lead_new hq)
        have HQ := Lib.hid hq
        clear hq
        generalize markF l j n = M at *
        go_wp2_with (go_at_call 43; refine cm.mono ?_; clear cm; rintro e w' ⟨rfl, q, rfl⟩; have hlook := (hmap.drewN q).look_ok (t := 63) Try.underlying63 Try.underlying22 Try.underlying22 (Try.zeroValue22 _) M (by omega); rw [HQ.out] at hlook; obtain ⟨w6, hput, hmap6, hg6⟩ := (hmap.drewN q).put (t := 63) Try.underlying63 Try.underlying22 Try.underlying22 (by unfold maxLen; omega) M (by omega) j (by omega); rw [HN.out] at hmap6; have hb5 := below_drewN hb q; have hb6 := hb5.trans (grown_below hg6 hb5.size (fun k e => by injection e with e; omega)))
        go_roundw
        case rel => exact ⟨j + 1, by omega, by go_num, hmap6, hb6⟩
        case measure => simp only [intOf]; omega
      | some v =>
        have hv := lead_lt hq
        have c1 := fun w => ones_count j w (by omega)
        have c2 := fun w => ones_count v w (by omega)
        have p1 := pop_le j
        have p2 := pop_le v
        by_cases hpp : pop j < pop v
        · have HN := Lib.hid (lead_less hq hpp)
          have HQ := Lib.hid hq
          have hpi : ((pop j : Nat) : Int) < ((pop v : Nat) : Int) := by omega
          clear hq
          generalize markF l j n = M at *
          generalize pop j = pj at *
          generalize pop v = pv at *
          go_wp2_with (first
            | (go_at_call 43; refine cm.mono ?_; clear cm; rintro e w' ⟨rfl, q, rfl⟩; have hlook := (hmap.drewN q).look_ok (t := 63) Try.underlying63 Try.underlying22 Try.underlying22 (Try.zeroValue22 _) M (by omega); rw [HQ.out] at hlook)
            | (go_at_call 56; refine (c1 _).mono ?_; clear c1; rintro e w' ⟨rfl, q2, rfl⟩)
            | (go_at_call 56; refine (c2 _).mono ?_; clear c2; rintro e w' ⟨rfl, q3, rfl⟩; obtain ⟨w6, hput, hmap6, hg6⟩ := (hmap.drewN (q + q2 + q3)).put (t := 63) Try.underlying63 Try.underlying22 Try.underlying22 (by unfold maxLen; omega) M (by omega) j (by omega); rw [HN.out] at hmap6; have hb5 := below_drewN hb (q + q2 + q3); have hb6 := hb5.trans (grown_below hg6 hb5.size (fun k e => by injection e with e; omega))))
          go_roundw
          case rel => exact ⟨j + 1, by omega, by go_num, hmap6, hb6⟩
          case measure => simp only [intOf]; omega
        · have HN := Lib.hid (lead_old hq hpp)
          have HQ := Lib.hid hq
          have hpi : ¬ ((pop j : Nat) : Int) < ((pop v : Nat) : Int) := by omega
          clear hq
          generalize markF l j n = M at *
          generalize pop j = pj at *
          generalize pop v = pv at *
          go_wp2_with (first
            | (go_at_call 43; refine cm.mono ?_; clear cm; rintro e w' ⟨rfl, q, rfl⟩; have hlook := (hmap.drewN q).look_ok (t := 63) Try.underlying63 Try.underlying22 Try.underlying22 (Try.zeroValue22 _) M (by omega); rw [HQ.out] at hlook)
            | (go_at_call 56; refine (c1 _).mono ?_; clear c1; rintro e w' ⟨rfl, q2, rfl⟩)
            | (go_at_call 56; refine (c2 _).mono ?_; clear c2; rintro e w' ⟨rfl, q3, rfl⟩; have hmap6 : MapN Try.prog 22 22 (wr.drewN (q + q2 + q3)) w.heap.size (j + 1) (lead l n (j + 1)) := (by rw [← HN.out]; obtain ⟨D, hD, hf⟩ := hmap.drewN (q + q2 + q3); exact ⟨D, hD.mono (by omega), hf⟩); have hb6 := below_drewN hb (q + q2 + q3)))
          go_roundw
          case rel => first | exact ⟨j + 1, by omega, by go_num, hmap6, hb6⟩ | (simp only [World.drewN_drewN]; exact ⟨j + 1, by omega, by go_num, hmap6, hb6⟩)
          case measure => simp only [intOf]; omega
    · obtain rfl : j = p := by omega
      go_wp2
      go_ret
      refine ⟨w.heap.size, rfl, ?_, hb⟩
      obtain ⟨D, hD, hf⟩ := hmap
      exact ⟨D, hD.mono (by omega), hf⟩
end Go.Proofs.Ythijnhoggdoklaa

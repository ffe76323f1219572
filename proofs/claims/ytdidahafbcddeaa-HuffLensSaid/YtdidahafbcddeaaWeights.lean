/-
  Weights: are they in range? huff.Check and quipuref.WeightsCheck.
-/
import Derived.Test.YtdidahafbcddeaaProg
import Derived.Test.YtdidahafbcddeaaIdx
set_option linter.unusedVariables false
namespace Go.Proofs.Ytdidahafbcddeaa
open Go.RowKit

set_option maxHeartbeats 400000 in
theorem idx_wts (A : Option Addr) (n c : Nat) (vs : List Value) (p : Nat → Bool) (r : Int) (w : World) (h : Reads w w.heap.size A n vs) (hn : n ≤ maxLen)
    (hp : ∀ k u m, vs[k]? = some u → Calls Try.prog 50 #[u] (w.drewN m) (RetQ (w.drewN m) (.bool (p k)))) (hr : Hid (idxOf p n = r)) :
    Calls Try.prog 62 #[.slice A n c, .func (.func 50) #[] #[]] w (RetQ w (.int .i64 r)) := by
  unfold maxLen at hn
  have HP := Lib.hid hp
  clear hp
  go_enter Try.func62, Try.ntmps62
  go_wp2
  go_loopw [8] (fun i wr => ∃ k m : Nat, k ≤ n ∧ i = .int .i64 k ∧ wr = w.drewN m ∧ Hid (∀ j, j < k → p j = false)) (fun i _ => n - (intOf i).toNat)
  case atStart => exact ⟨0, 0, by omega, rfl, rfl, fun j hj => absurd hj (by omega)⟩
  case round =>
    obtain ⟨k, m, hk, rfl, rfl, hall⟩ := hrel
    by_cases hlt : k < n
    · obtain ⟨ad, u, rfl, hb, hx, hc⟩ := h.at_ hlt
      have cc := HP.out k u m hx
      cases hq : p k
      · rw [hq] at cc
        have HA : Hid (∀ j, j < k + 1 → p j = false) := fun j hj => by
          rcases Nat.lt_or_ge j k with h1 | h1
          · exact hall.out j h1
          · obtain rfl : j = k := by omega
            exact hq
        clear hx hq
        go_wp2_with (go_at_call 50; refine cc.mono ?_; rintro e w' ⟨rfl, m2, rfl⟩)
        go_roundw
        case rel => exact ⟨k + 1, m + m2, by omega, by go_num, rfl, HA⟩
        case measure => simp [intOf]; omega
      · rw [hq] at cc
        have HI := Lib.hid (idxOf_hit hlt hq hall.out)
        clear hx hq
        go_wp2_with (go_at_call 50; refine cc.mono ?_; rintro e w' ⟨rfl, m2, rfl⟩)
        go_ret
        exact ⟨ret_i (by rw [← hr.out, HI.out]), m + m2, rfl⟩
    · obtain rfl : k = n := by omega
      have HI := Lib.hid (idxOf_none hall.out)
      go_wp2
      go_ret
      exact ⟨ret_i (by rw [← hr.out, HI.out]), m, rfl⟩

set_option maxHeartbeats 400000 in
theorem contains_wts (A : Option Addr) (n c : Nat) (vs : List Value) (p : Nat → Bool) (b : Bool) (w : World) (h : Reads w w.heap.size A n vs) (hn : n ≤ maxLen)
    (hp : ∀ k u m, vs[k]? = some u → Calls Try.prog 50 #[u] (w.drewN m) (RetQ (w.drewN m) (.bool (p k)))) (hr : Hid (anyTo p n = b)) :
    Calls Try.prog 49 #[.slice A n c, .func (.func 50) #[] #[]] w (RetQ w (.bool b)) := by
  have cc := idx_wts  A n c vs p (idxOf p n) w h hn hp rfl
  have HB : Hid (decide (0 ≤ idxOf p n) = b) := by unfold Hid; rw [← hr.out, anyTo_idx]
  generalize idxOf p n = z at *
  clear hp
  go_enter Try.func49, Try.ntmps49
  go_wp2_with (go_at_call 62; refine cc.mono ?_; rintro e w' ⟨rfl, m2, rfl⟩)
  go_ret
  exact ⟨ret_b (by rw [← HB.out]), m2, rfl⟩

def badW64 (z : Int) : Bool := decide (z < 0) || decide (1048576 < z)
/-- what is wrong with weights -/
def wtsErr (l : List Int) : Int := if 8 < l.length then 1 else if l.any badW64 = true then 4 else 0
theorem huff_check1 (z : Int) (w : World) : Calls Try.prog 50 #[.int .i64 z] w (Ret w (.bool (badW64 z))) := by
  by_cases h1 : z < 0
  · have HB : Hid (badW64 z = true) := by unfold Hid badW64; simp [h1]
    go_enter Try.func50, Try.ntmps50
    go_wp2
    go_ret
    exact ⟨ret_b HB.out.symm, rfl⟩
  · by_cases h2 : (1048576 : Int) < z
    · have HB : Hid (badW64 z = true) := by unfold Hid badW64; simp [h2]
      go_enter Try.func50, Try.ntmps50
      go_wp2
      go_ret
      exact ⟨ret_b HB.out.symm, rfl⟩
    · have HB : Hid (badW64 z = false) := by unfold Hid badW64; simp [h1, h2]
      go_enter Try.func50, Try.ntmps50
      go_wp2
      go_ret
      exact ⟨ret_b HB.out.symm, rfl⟩
set_option maxHeartbeats 400000 in
theorem huff_Check (A : Option Addr) (n c : Nat) (l : List Int) (b : Int) (w : World) (h : Reads w w.heap.size A n (vi .i64 l)) (hn : n ≤ maxLen) (hr : Hid (wtsErr l = b)) :
    Calls Try.prog 33 #[.slice A n c] w (RetQ w (.int .i64 b)) := by
  have hlen := h.int_len
  have hp : ∀ k u m, (vi .i64 l)[k]? = some u → Calls Try.prog 50 #[u] (w.drewN m) (RetQ (w.drewN m) (.bool (badW64 (l.getD k 0)))) := by
    intro k u m hu
    rw [List.getElem?_map] at hu
    obtain ⟨z, hz, rfl⟩ := Option.map_eq_some_iff.1 hu
    have : l.getD k 0 = z := by simp [List.getD, hz]
    rw [this]
    exact (huff_check1 z (w.drewN m)).mono fun e w' ⟨h1, h2'⟩ => ⟨h1, 0, by rw [← h2']; rfl⟩
  have ha : anyTo (fun k => badW64 (l.getD k 0)) n = l.any badW64 := by
    rw [← hlen]; exact anyTo_list l badW64 _ fun k x hx => by simp [List.getD, hx]
  have cc := contains_wts A n c (vi .i64 l) (fun k => badW64 (l.getD k 0)) (l.any badW64) w h hn hp ha
  by_cases h8 : 8 < n
  · have E : Hid (wtsErr l = 1) := by unfold Hid wtsErr; rw [hlen, if_pos h8]
    have i8 : (8 : Int) < (n : Int) := by omega
    clear hlen hp ha cc
    go_enter Try.func33, Try.ntmps33
    go_wp2
    go_ret
    exact ⟨ret_i (by rw [← hr.out, E.out]), 0, rfl⟩
  · have E : Hid (wtsErr l = if l.any badW64 = true then 4 else 0) := by unfold Hid wtsErr; rw [hlen, if_neg h8]
    have i8 : ¬ (8 : Int) < (n : Int) := by omega
    clear hlen hp ha
    generalize l.any badW64 = q at *
    cases q
    · go_enter Try.func33, Try.ntmps33
      go_wp2_with (go_at_call 49; refine cc.mono ?_; rintro e w' ⟨rfl, m2, rfl⟩)
      go_ret
      exact ⟨ret_i (by rw [← hr.out, E.out]; rfl), m2, rfl⟩
    · go_enter Try.func33, Try.ntmps33
      go_wp2_with (go_at_call 49; refine cc.mono ?_; rintro e w' ⟨rfl, m2, rfl⟩)
      go_ret
      exact ⟨ret_i (by rw [← hr.out, E.out]; rfl), m2, rfl⟩
theorem anyW_next {l : List Int} {k : Nat} {x : Int} (hx : l[k]? = some x) (h : (l.take k).any badW64 = false) (hb : badW64 x = false) : (l.take (k + 1)).any badW64 = false := by
  rw [take_next hx, List.any_append, h]
  simp [hb]
set_option maxHeartbeats 400000 in
theorem ref_WeightsCheck (A : Option Addr) (n c : Nat) (l : List Int) (b : Int) (w : World) {B : Nat} (h : Reads w B A n (vi .i64 l)) (hn : n ≤ maxLen) (hr : Hid (wtsErr l = b)) :
    Calls Try.prog 13 #[.slice A n c] w (Ret w (.int .i64 b)) := by
  have hlen := h.int_len
  by_cases h8 : 8 < n
  · have E : Hid (wtsErr l = 1) := by unfold Hid wtsErr; rw [hlen, if_pos h8]
    have i8 : (8 : Int) < (n : Int) := by omega
    go_enter Try.func13, Try.ntmps13
    go_wp2
    go_ret
    exact ⟨ret_i (by rw [← hr.out, E.out]), rfl⟩
  · have E : Hid (wtsErr l = if l.any badW64 = true then 4 else 0) := by unfold Hid wtsErr; rw [hlen, if_neg h8]
    have i8 : ¬ (8 : Int) < (n : Int) := by omega
    have HLN := Lib.hid hlen
    clear hlen
    go_enter Try.func13, Try.ntmps13
    go_wp2
    go_loop [10] (fun i => ∃ k : Nat, k ≤ n ∧ i = .int .i64 k ∧ Hid ((l.take k).any badW64 = false)) (fun i => n - (intOf i).toNat)
    case atStart => exact ⟨0, by omega, rfl, rfl⟩
    case round =>
      obtain ⟨k, hk, rfl, hall⟩ := hrel
      by_cases hlt : k < n
      · obtain ⟨ad, x, rfl, hb, hx, hc⟩ := h.int_at hlt
        have i1 : (k : Int) < (n : Int) := by omega
        cases hq : badW64 x with
        | true =>
          have HB : Hid (b = 4) := by
            unfold Hid
            rw [← hr.out, E.out, if_pos (List.any_eq_true.2 ⟨x, mem_at hx, hq⟩)]
          unfold badW64 at hq
          by_cases h1 : x < 0
          · clear hq hx
            go_wp2
            go_ret
            exact ⟨ret_i HB.out.symm, rfl⟩
          · have h2 : (1048576 : Int) < x := by simpa [h1] using hq
            clear hq hx
            go_wp2
            go_ret
            exact ⟨ret_i HB.out.symm, rfl⟩
        | false =>
          have HA := Lib.hid (anyW_next hx hall.out hq)
          unfold badW64 at hq
          have h1 : ¬ x < 0 := fun e => by simp [e] at hq
          have h2 : ¬ (1048576 : Int) < x := fun e => by simp [e] at hq
          clear hq hx
          go_wp2
          go_round
          case rel => exact ⟨k + 1, by omega, by go_num, HA⟩
          case measure => simp [intOf] <;> omega
      · obtain rfl : n = k := by omega
        have HB : Hid (b = 0) := by
          unfold Hid
          have := hall.out
          rw [List.take_of_length_le (Nat.le_of_eq HLN.out)] at this
          rw [← hr.out, E.out, this]
          simp
        go_wp2
        go_ret
        exact ⟨ret_i HB.out.symm, rfl⟩
/-- weights that may be are whole numbers -/
theorem wts_ok {l : List Int} (h : wtsErr l = 0) : l.length ≤ 8 ∧ ∃ ws : List Nat, vi .i64 l = vn .i64 ws ∧ ws.length = l.length ∧ ∀ x ∈ ws, x ≤ 1048576 := by
  unfold wtsErr at h
  split at h
  · omega
  · split at h
    · omega
    · rename_i h8 hb
      refine ⟨by omega, l.map Int.toNat, ?_, by simp, fun x hx => ?_⟩
      · unfold vi vn
        rw [List.map_map]
        apply List.map_congr_left
        intro z hz
        have : badW64 z = false := by
          cases hq : badW64 z with
          | false => rfl
          | true => exact absurd (List.any_eq_true.2 ⟨z, hz, hq⟩) hb
        unfold badW64 at this
        have h1 : ¬ z < 0 := fun e => by simp [e] at this
        simp [Int.toNat_of_nonneg (show 0 ≤ z by omega)]
      · obtain ⟨z, hz, rfl⟩ := List.mem_map.1 hx
        have : badW64 z = false := by
          cases hq : badW64 z with
          | false => rfl
          | true => exact absurd (List.any_eq_true.2 ⟨z, hz, hq⟩) hb
        unfold badW64 at this
        have h2 : ¬ (1048576 : Int) < z := fun e => by simp [e] at this
        omega
end Go.Proofs.Ytdidahafbcddeaa

import Derived.Test.YtpbffbhebdcpbaaFieldm
import Derived.Test.YtpbffbhebdcpbaaFieldIdx
set_option linter.unusedVariables false
namespace Go.Proofs.Ytpbffbhebdcpbaa
open Go.RowKit

def badF (z : Int) : Bool := decide (z < 0) || decide (15 < z)
def fldErr (l : List Int) : Int := if l.any badF = true then 4 else 0
theorem badF_ok {z : Int} (h : badF z = false) : 0 ≤ z ∧ z ≤ 15 := by simp [badF] at h; omega
theorem badF_lo {z : Int} (h : z < 0) : badF z = true := by simp [badF, h]
theorem badF_hi {z : Int} (h : 15 < z) : badF z = true := by simp [badF, h]
theorem badF_in {z : Int} (h0 : 0 ≤ z) (h1 : z ≤ 15) : badF z = false := by simp [badF]; omega
theorem fldErr_ok {l : List Int} (h : fldErr l = 0) : ∀ z ∈ l, 0 ≤ z ∧ z ≤ 15 := by
  intro z hz
  unfold fldErr at h
  split at h
  · omega
  · rename_i h1
    have : l.any badF = false := by simpa using h1
    exact badF_ok (by have := List.any_eq_false.1 this z hz; simpa using this)
theorem fldErr_nats {l : List Int} (h : fldErr l = 0) : ∃ l' : List Nat, l = l'.map (fun x : Nat => (x : Int)) ∧ vi .i64 l = vn .i64 l' ∧ ∀ x ∈ l', x < 16 := by
  have h := fldErr_ok h
  refine ⟨l.map Int.toNat, ?_, ?_, ?_⟩
  · rw [List.map_map]
    conv => lhs; rw [← List.map_id l]
    apply List.map_congr_left
    intro z hz
    have := h z hz
    simp; omega
  · unfold vi vn
    rw [List.map_map]
    apply List.map_congr_left
    intro z hz
    have := h z hz
    simp; omega
  · intro x hx
    obtain ⟨z, hz, rfl⟩ := List.mem_map.1 hx
    have := h z hz
    omega
theorem fldErr_of_nats {l : List Nat} (h : ∀ x ∈ l, x < 16) : fldErr (l.map (fun x : Nat => (x : Int))) = 0 := by
  unfold fldErr
  rw [if_neg]
  rw [Bool.not_eq_true, List.any_eq_false]
  intro z hz
  obtain ⟨x, hx, rfl⟩ := List.mem_map.1 hz
  have := h x hx
  rw [badF_in (by omega) (by omega)]; simp

set_option maxHeartbeats 400000 in
theorem field_check1 (z : Int) (w : World) :
    Calls Try.prog 48 #[.int .i64 z] w (Ret w (.bool (badF z))) := by
  by_cases h0 : z < 0
  · have HB := Lib.hid (badF_lo h0)
    go_enter Try.func48, Try.ntmps48
    go_wp2
    go_ret
    exact ⟨ret_b HB.out.symm, rfl⟩
  · by_cases h1 : 15 < z
    · have HB := Lib.hid (badF_hi h1)
      go_enter Try.func48, Try.ntmps48
      go_wp2
      go_ret
      exact ⟨ret_b HB.out.symm, rfl⟩
    · have HB := Lib.hid (badF_in (z := z) (by omega) (by omega))
      go_enter Try.func48, Try.ntmps48
      go_wp2
      go_ret
      exact ⟨ret_b HB.out.symm, rfl⟩

set_option maxHeartbeats 400000 in
theorem field_Check (A : Option Addr) (n c : Nat) (l : List Int) (b : Int) (w : World) (h : Reads w w.heap.size A n (vi .i64 l)) (hn : n ≤ maxLen) (hr : Hid (fldErr l = b)) :
    Calls Try.prog 30 #[.slice A n c] w (RetQ w (.int .i64 b)) := by
  have hlen := h.int_len
  have hp : ∀ k u m, (vi .i64 l)[k]? = some u → Calls Try.prog 48 #[u] (w.drewN m) (RetQ (w.drewN m) (.bool (badF (l.getD k 0)))) := by
    intro k u m hu
    rw [List.getElem?_map] at hu
    obtain ⟨z, hz, rfl⟩ := Option.map_eq_some_iff.1 hu
    have : l.getD k 0 = z := by simp [List.getD, hz]
    rw [this]
    exact (field_check1 z (w.drewN m)).mono fun e w' ⟨h1, h2'⟩ => ⟨h1, 0, by rw [← h2']; rfl⟩
  have ha : anyTo (fun k => badF (l.getD k 0)) n = l.any badF := by
    rw [← hlen]; exact anyTo_list l badF _ fun k x hx => by simp [List.getD, hx]
  have cc := contains_fld A n c (vi .i64 l) (fun k => badF (l.getD k 0)) (l.any badF) w h hn hp ha
  have E : Hid (fldErr l = if l.any badF = true then 4 else 0) := rfl
  clear hlen hp ha
  generalize l.any badF = q at *
  cases q
  · go_enter Try.func30, Try.ntmps30
    go_wp2_with (go_at_call 47; refine cc.mono ?_; rintro e w' ⟨rfl, m2, rfl⟩)
    go_ret
    exact ⟨ret_i (by rw [← hr.out, E.out]; rfl), m2, rfl⟩
  · go_enter Try.func30, Try.ntmps30
    go_wp2_with (go_at_call 47; refine cc.mono ?_; rintro e w' ⟨rfl, m2, rfl⟩)
    go_ret
    exact ⟨ret_i (by rw [← hr.out, E.out]; rfl), m2, rfl⟩

set_option maxHeartbeats 400000 in
theorem ref_FieldCheck (A : Option Addr) (n c : Nat) (l : List Int) (b : Int) (w : World) {B : Nat} (h : Reads w B A n (vi .i64 l)) (hn : n ≤ maxLen) (hr : Hid (fldErr l = b)) :
    Calls Try.prog 18 #[.slice A n c] w (Ret w (.int .i64 b)) := by
  have H := Lib.hid h.int_len
  unfold maxLen at hn
  go_enter Try.func18, Try.ntmps18
  go_wp2
  go_loop [7] (fun i => ∃ k : Nat, k ≤ n ∧ i = .int .i64 k ∧ Hid ((l.take k).any badF = false)) (fun i => n - (intOf i).toNat)
  case atStart => exact ⟨0, by omega, rfl, by simp [Hid]⟩
  case round =>
    obtain ⟨k, hk, rfl, hall⟩ := hrel
    by_cases hlt : k < n
    · obtain ⟨ad, z, rfl, hb, hx, hc⟩ := h.int_at hlt
      have HX := Lib.hid hx
      clear hx
      by_cases h0 : z < 0
      · have HB : Hid (fldErr l = 4) := by
          unfold Hid fldErr; rw [if_pos (List.any_eq_true.2 ⟨z, mem_at HX.out, badF_lo h0⟩)]
        go_wp2
        go_ret
        exact ⟨ret_i (by rw [← hr.out, HB.out]), rfl⟩
      · by_cases h1 : 15 < z
        · have HB : Hid (fldErr l = 4) := by
            unfold Hid fldErr; rw [if_pos (List.any_eq_true.2 ⟨z, mem_at HX.out, badF_hi h1⟩)]
          go_wp2
          go_ret
          exact ⟨ret_i (by rw [← hr.out, HB.out]), rfl⟩
        · have HA : Hid ((l.take (k + 1)).any badF = false) := by
            unfold Hid; rw [take_next HX.out, List.any_append, hall.out]; simp [badF_in (z := z) (by omega) (by omega)]
          go_wp2
          go_round
          case rel => exact ⟨k + 1, by omega, by go_num, HA⟩
          case measure => simp [intOf]; omega
    · obtain rfl : k = n := by omega
      have HB : Hid (fldErr l = 0) := by
        have := hall.out
        rw [List.take_of_length_le (Nat.le_of_eq H.out)] at this
        unfold Hid fldErr; rw [this]; rfl
      go_wp2
      go_ret
      exact ⟨ret_i (by rw [← hr.out, HB.out]), rfl⟩

/-! ### products -/
theorem field_Check2 (a b z : Int) (w : World) (hz : Hid (fldErr [a, b] = z)) :
    Calls Try.prog 30 #[.slice (some ⟨w.heap.size, 0, none⟩) 2 2] (w.alloc (.cells #[.int .i64 a, .int .i64 b] 3)) (RetQ (w.alloc (.cells #[.int .i64 a, .int .i64 b] 3)) (.int .i64 z)) :=
  field_Check _ 2 2 [a, b] z _ (by simpa using reads_lay w #[.int .i64 a, .int .i64 b] 3 2 rfl) (by unfold maxLen; omega) hz
theorem ref_FieldCheck2 (a b z : Int) (w : World) (hz : Hid (fldErr [a, b] = z)) :
    Calls Try.prog 18 #[.slice (some ⟨w.heap.size, 0, none⟩) 2 2] (w.alloc (.cells #[.int .i64 a, .int .i64 b] 3)) (Ret (w.alloc (.cells #[.int .i64 a, .int .i64 b] 3)) (.int .i64 z)) :=
  ref_FieldCheck _ 2 2 [a, b] z _ (by simpa using reads_lay w #[.int .i64 a, .int .i64 b] 3 2 rfl) (by unfold maxLen; omega) hz
theorem field_Check1 (a z : Int) (w : World) (hz : Hid (fldErr [a] = z)) :
    Calls Try.prog 30 #[.slice (some ⟨w.heap.size, 0, none⟩) 1 1] (w.alloc (.cells #[.int .i64 a] 3)) (RetQ (w.alloc (.cells #[.int .i64 a] 3)) (.int .i64 z)) :=
  field_Check _ 1 1 [a] z _ (by simpa using reads_lay w #[.int .i64 a] 3 1 rfl) (by unfold maxLen; omega) hz
theorem ref_FieldCheck1 (a z : Int) (w : World) (hz : Hid (fldErr [a] = z)) :
    Calls Try.prog 18 #[.slice (some ⟨w.heap.size, 0, none⟩) 1 1] (w.alloc (.cells #[.int .i64 a] 3)) (Ret (w.alloc (.cells #[.int .i64 a] 3)) (.int .i64 z)) :=
  ref_FieldCheck _ 1 1 [a] z _ (by simpa using reads_lay w #[.int .i64 a] 3 1 rfl) (by unfold maxLen; omega) hz

end Go.Proofs.Ytpbffbhebdcpbaa

/-
  quipuref.off: at how many of the places that are there two words differ.
-/
import Derived.Test.YtpbffbhebdcpbaaPointp
import Derived.Test.YtpbffbhebdcpbaaQuiet
set_option linter.unusedVariables false
namespace Go.Proofs.Ytpbffbhebdcpbaa
open Go.RowKit

def cntO (f : Nat → Bool) : Nat → Nat
  | 0 => 0
  | k + 1 => cntO f k + if f k then 1 else 0
theorem cntO_le (f : Nat → Bool) : ∀ k, cntO f k ≤ k
  | 0 => Nat.le_refl 0
  | k + 1 => by have := cntO_le f k; rw [cntO]; split <;> omega
theorem cntO_zero {f : Nat → Bool} : ∀ {k}, cntO f k = 0 ↔ ∀ j, j < k → f j = false
  | 0 => ⟨fun _ j hj => absurd hj (by omega), fun _ => rfl⟩
  | k + 1 => by
    rw [cntO]
    constructor
    · intro h j hj
      have h1 : cntO f k = 0 := by omega
      rcases Nat.lt_or_ge j k with h2 | h2
      · exact cntO_zero.1 h1 j h2
      · obtain rfl : j = k := by omega
        cases hf : f j
        · rfl
        · rw [hf, if_pos rfl] at h; omega
    · intro h
      rw [cntO_zero.2 (fun j hj => h j (by omega)), h k (by omega)]; rfl
/-- is there and differs -/
def offB (l : List Int) (lost : List Bool) (d : List Nat) (j : Nat) : Bool := ((horn (j + 1) d : Int) != l.getD j 0) && !(lost.getD j false)
theorem ptL_at (d : List Nat) {n k : Nat} (h : k < n) : (ptL d n)[k]? = some (horn (k + 1) d) := by
  unfold ptL; rw [List.getElem?_map, List.getElem?_range h]; rfl
set_option maxRecDepth 100000 in
set_option maxHeartbeats 1600000 in
theorem ref_off (A A' A2 : Option Addr) (n c c' m c2 : Nat) (l : List Int) (d : List Nat) (lost : List Bool) (w : World) (h : Reads w w.heap.size A n (vi .i64 l)) (hlo : Reads w w.heap.size A' n (vb lost)) (hd : Reads w w.heap.size A2 m (vn .i64 d)) (hn : n ≤ 9) (hm : m ≤ 9) (h16 : ∀ z ∈ d, z < 16) :
    Calls Try.prog 37 #[.slice A n c, .slice A' n c', .slice A2 m c2] w (RetB w (.int .i64 (cntO (offB l lost d) n : Nat))) := by
  have cv := ref_Values n A2 m c2 d w hn hd (by omega) h16
  go_enter Try.func37, Try.ntmps37
  go_wp2_with (go_at_call 57; refine cv.mono ?_; clear cv; rintro e w1 ⟨A3, n3, c3, rfl, ho3, hb3⟩; obtain rfl : n = n3 := (by have := ho3.len; rw [ptL_len] at this; exact this))
  go_loopw [7, 15] (fun v7 i wr => ∃ k : Nat, k ≤ n ∧ i = .int .i64 k ∧ v7 = .int .i64 (cntO (offB l lost d) k : Nat) ∧ Qt w1 wr) (fun _ i _ => n - (intOf i).toNat)
  case atStart => exact ⟨0, by omega, rfl, rfl, Qt.refl _⟩
  case round =>
    obtain ⟨k, hk, rfl, rfl, q, rfl⟩ := hrel
    have hcl := cntO_le (offB l lost d) k
    by_cases hlt : k < n
    · have i1 : (k : Int) < (n : Int) := by omega
      obtain ⟨ad3, x, e, _, hx, hcx⟩ := (ho3.reads.drewN q).nat_at (k := k) hlt
      subst e
      rw [ptL_at d hlt] at hx
      injection hx with hx
      obtain ⟨ad, v, e, _, hv, hcv⟩ := ((h.below hb3).drewN q).int_at (k := k) hlt
      subst e
      obtain ⟨ad', b, e, _, hb, hcb⟩ := ((hlo.below hb3).drewN q).bool_at (k := k) hlt
      subst e
      have hvD : l.getD k 0 = v := by rw [List.getD_eq_getElem?_getD, hv]; rfl
      have hbD : lost.getD k false = b := by rw [List.getD_eq_getElem?_getD, hb]; rfl
      have hN : cntO (offB l lost d) (k + 1) = cntO (offB l lost d) k + if (((x : Int) != v) && !b) then 1 else 0 := by
        rw [cntO]; unfold offB; rw [hvD, hbD, hx]
      have HN := Lib.hid hN
      have H := Lib.hid h
      have HLO := Lib.hid hlo
      have HO3 := Lib.hid ho3
      generalize cntO (offB l lost d) k = cc at *
      clear hv hb hvD hbD hN hx h hlo ho3
      by_cases hxv : (x : Int) = v
      · subst hxv
        have b1 : ((x : Int) != (x : Int)) = false := by simp
        rw [b1] at HN
        go_wp2
        go_roundw
        case rel => exact ⟨k + 1, by omega, by go_num, by rw [HN.out]; simp, ⟨q, rfl⟩⟩
        case measure => simp [intOf]; omega
      · have b1 : ((x : Int) != (v : Int)) = true := by simp; omega
        rw [b1] at HN
        clear hxv
        cases b
        · go_wp2
          go_roundw
          case rel => exact ⟨k + 1, by omega, by go_num, by rw [HN.out]; go_num, ⟨q, rfl⟩⟩
          case measure => simp [intOf]; omega
        · go_wp2
          go_roundw
          case rel => exact ⟨k + 1, by omega, by go_num, by rw [HN.out]; simp, ⟨q, rfl⟩⟩
          case measure => simp [intOf]; omega
    · obtain rfl : n = k := by omega
      have i1 : ¬ (n : Int) < (n : Int) := by omega
      go_wp2
      go_ret
      exact ⟨rfl, below_drewN hb3 q⟩
end Go.Proofs.Ytpbffbhebdcpbaa

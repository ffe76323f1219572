import Derived.Test.YtipnnpjinopgoaaBits
set_option linter.unusedVariables false
namespace Go.Proofs.Ytipnnpjinopgoaa
open Go.RowKit

def fits (m : Nat) (x : Nat) : Bool := decide (x < 2 ^ m)
/-- what is wrong with so many bits, and with words -/
def bitsErr (n : Int) (l : List Nat) : Int := if n < 0 ∨ 12 < n then 1 else if l.all (fits n.toNat) then 0 else 4
theorem bitsErr_n {n : Int} (l : List Nat) (h : n < 0 ∨ 12 < n) : bitsErr n l = 1 := by simp [bitsErr, h]
theorem bitsErr_ok {m : Nat} {l : List Nat} (h : m ≤ 12) (hl : l.all (fits m) = true) : bitsErr m l = 0 := by
  unfold bitsErr; rw [if_neg (by omega), Int.toNat_natCast, if_pos hl]
theorem bitsErr_bad {m k x : Nat} {l : List Nat} (h : m ≤ 12) (hx : l[k]? = some x) (hb : ¬ x < 2 ^ m) : bitsErr m l = 4 := by
  unfold bitsErr; rw [if_neg (by omega), Int.toNat_natCast, if_neg]
  intro hl
  have := List.all_eq_true.1 hl x (mem_at hx)
  simp [fits] at this; omega
theorem all_fits_next {m k x : Nat} {l : List Nat} (hx : l[k]? = some x) (h : (l.take k).all (fits m) = true) (hb : x < 2 ^ m) : (l.take (k + 1)).all (fits m) = true := by
  rw [take_next hx]; simp [h]; simp [fits, hb]
theorem pow_le12 {m : Nat} (h : m ≤ 12) : 0 < 2 ^ m ∧ 2 ^ m ≤ 4096 := ⟨Nat.pow_pos (by omega), by have := Nat.pow_le_pow_right (n := 2) (by omega) h; simpa using this⟩

theorem shr_test {x m : Nat} : ((x : Int) / 2 ^ m != 0) = decide (2 ^ m ≤ x) := by
  have e : ((2 : Int) ^ m) = ((2 ^ m : Nat) : Int) := by rw [Int.natCast_pow]; rfl
  have hp : 0 < 2 ^ m := Nat.pow_pos (by omega)
  rw [e, ← Int.natCast_ediv, Bool.eq_iff_iff, bne_iff_ne, decide_eq_true_iff]
  have : x / 2 ^ m = 0 ↔ x < 2 ^ m := Nat.div_eq_zero_iff_lt hp
  omega
set_option maxHeartbeats 400000 in
theorem ball_Check (nb : Int) (A : Option Addr) (n c : Nat) (l : List Nat) (b : Int) (w : World) (h : Reads w w.heap.size A n (vn .u32 l)) (hr : Hid (bitsErr nb l = b)) (hlen : n ≤ maxLen) (hw : ∀ x ∈ l, x < 4294967296) :
    Calls Try.prog 21 #[.int .i64 nb, .slice A n c] w (Ret w (.int .i64 b)) := by
  have H := Lib.hid h.nat_len
  unfold maxLen at hlen
  by_cases hn : nb < 0 ∨ 12 < nb
  · have E := Lib.hid (bitsErr_n l hn)
    by_cases h0 : nb < 0
    all_goals
      go_enter Try.func21, Try.ntmps21
      go_wp2
      go_ret
      exact ⟨ret_i (by rw [← hr.out, E.out]), rfl⟩
  · have h0 : 0 ≤ nb := by omega
    have h12 : nb ≤ 12 := by omega
    obtain ⟨m, rfl⟩ := Int.eq_ofNat_of_zero_le h0
    clear hn
    go_enter Try.func21, Try.ntmps21
    go_wp2
    go_loop [15] (fun i => ∃ k : Nat, k ≤ n ∧ i = .int .i64 k ∧ Hid ((l.take k).all (fits m) = true)) (fun i => n - (intOf i).toNat)
    case atStart => exact ⟨0, by omega, rfl, by simp [Hid]⟩
    case round =>
      obtain ⟨k, hk, rfl, hall⟩ := hrel
      by_cases hlt : k < n
      · obtain ⟨ad, x, rfl, hb, hx, hc⟩ := h.nat_at hlt
        have hx32 := hw x (mem_at hx)
        have HX := Lib.hid hx
        clear hx
        have ht := shr_test (x := x) (m := m)
        by_cases hbig : x < 2 ^ m
        · rw [decide_eq_false (by omega)] at ht
          have HB := Lib.hid hbig
          clear hbig
          go_wp2
          go_round
          case rel => exact ⟨k + 1, by omega, by go_num, all_fits_next HX.out hall.out HB.out⟩
          case measure => simp [intOf]; omega
        · rw [decide_eq_true (by omega)] at ht
          have E := Lib.hid (bitsErr_bad (m := m) (by omega) HX.out hbig)
          clear hbig
          go_wp2
          go_ret
          exact ⟨ret_i (by rw [← hr.out, E.out]), rfl⟩
      · obtain rfl : k = n := by omega
        have ht := List.take_of_length_le (Nat.le_of_eq H.out)
        rw [ht] at hall
        have E := Lib.hid (bitsErr_ok (by omega) hall.out)
        clear ht
        go_wp2
        go_ret
        exact ⟨ret_i (by rw [← hr.out, E.out]), rfl⟩
theorem shl_int {m : Nat} (h : m ≤ 12) : ((2 : Int) ^ m % 4294967296) = ((2 ^ m : Nat) : Int) := by
  have : ((2 : Int) ^ m) = ((2 ^ m : Nat) : Int) := by rw [Int.natCast_pow]; rfl
  rw [this]; exact mod_u32 _ (by have := (pow_le12 h).2; omega)
set_option maxHeartbeats 400000 in
theorem ref_BitsCheck (nb : Int) (A : Option Addr) (n c : Nat) (l : List Nat) (b : Int) (w : World) (h : Reads w w.heap.size A n (vn .u32 l)) (hr : Hid (bitsErr nb l = b)) (hlen : n ≤ maxLen) (hw : ∀ x ∈ l, x < 4294967296) :
    Calls Try.prog 16 #[.int .i64 nb, .slice A n c] w (Ret w (.int .i64 b)) := by
  have H := Lib.hid h.nat_len
  unfold maxLen at hlen
  by_cases hn : nb < 0 ∨ 12 < nb
  · have E := Lib.hid (bitsErr_n l hn)
    by_cases h0 : nb < 0
    all_goals
      go_enter Try.func16, Try.ntmps16
      go_wp2
      go_ret
      exact ⟨ret_i (by rw [← hr.out, E.out]), rfl⟩
  · have h0 : 0 ≤ nb := by omega
    have h12 : nb ≤ 12 := by omega
    obtain ⟨m, rfl⟩ := Int.eq_ofNat_of_zero_le h0
    clear hn
    go_enter Try.func16, Try.ntmps16
    go_wp2
    go_loop [15] (fun i => ∃ k : Nat, k ≤ n ∧ i = .int .i64 k ∧ Hid ((l.take k).all (fits m) = true)) (fun i => n - (intOf i).toNat)
    case atStart => exact ⟨0, by omega, rfl, by simp [Hid]⟩
    case round =>
      obtain ⟨k, hk, rfl, hall⟩ := hrel
      by_cases hlt : k < n
      · obtain ⟨ad, x, rfl, hb, hx, hc⟩ := h.nat_at hlt
        have hx32 := hw x (mem_at hx)
        have HX := Lib.hid hx
        clear hx
        have es := Lib.hid (shl_int (m := m) (by omega))
        go_wp2
        · have t : (2 : Int) ^ m % 4294967296 ≤ (x : Int) := by assumption
          rw [es.out] at t
          have E := Lib.hid (bitsErr_bad (m := m) (by omega) HX.out (Nat.not_lt.2 (Int.ofNat_le.1 t)))
          go_ret
          exact ⟨ret_i (by rw [← hr.out, E.out]), rfl⟩
        · have t : (x : Int) < (2 : Int) ^ m % 4294967296 := by assumption
          rw [es.out] at t
          go_round
          case rel => exact ⟨k + 1, by omega, by go_num, all_fits_next HX.out hall.out (Int.ofNat_lt.1 t)⟩
          case measure => simp [intOf]; omega
      · obtain rfl : k = n := by omega
        have ht := List.take_of_length_le (Nat.le_of_eq H.out)
        rw [ht] at hall
        have E := Lib.hid (bitsErr_ok (by omega) hall.out)
        clear ht
        go_wp2
        go_ret
        exact ⟨ret_i (by rw [← hr.out, E.out]), rfl⟩
theorem bitsErr1 {nb : Int} {x : Nat} (h : bitsErr nb [x] = 0) : ∃ n : Nat, nb = n ∧ n ≤ 12 ∧ x < 2 ^ n := by
  unfold bitsErr at h
  split at h
  · omega
  · split at h
    · rename_i h1 h2
      refine ⟨nb.toNat, by omega, by omega, ?_⟩
      simpa [fits] using h2
    · omega

end Go.Proofs.Ytipnnpjinopgoaa

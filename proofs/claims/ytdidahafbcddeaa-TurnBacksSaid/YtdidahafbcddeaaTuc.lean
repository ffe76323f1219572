/-
  bytes.Compare, cmp.Compare of bytes, slices.Index of 0, quipuref.ahead.
-/
import Derived.Test.YtdidahafbcddeaaTul
import Derived.Test.YtdidahafbcddeaaStore
import Derived.Test.YtdidahafbcddeaaBytesEq
import Derived.Lib.BytesEntry
import Derived.Lib.Bytealg
set_option linter.unusedVariables false
namespace Go.Proofs.Ytdidahafbcddeaa
open Go.RowKit

/-- what bytes.Compare tells -/
def cmpT (a b : List Nat) : Int := Lib.compareBytes (Lib.bytesOf (a.map Int.ofNat)) (Lib.bytesOf (b.map Int.ofNat))
theorem u8_lt {x y : Nat} (hx : x < 256) (hy : y < 256) : (UInt8.ofNat x < UInt8.ofNat y) ↔ x < y := by
  rw [UInt8.lt_iff_toNat_lt]
  simp only [UInt8.toNat_ofNat']
  rw [Nat.mod_eq_of_lt (by omega), Nat.mod_eq_of_lt (by omega)]
theorem cmpT_cons (x y : Nat) (a b : List Nat) (hx : x < 256) (hy : y < 256) : cmpT (x :: a) (y :: b) = if x < y then -1 else if y < x then 1 else cmpT a b := by
  unfold cmpT Lib.bytesOf
  simp only [List.map_cons]
  rw [Lib.compareBytes]
  have e : ∀ n : Nat, UInt8.ofNat (Int.ofNat n).toNat = UInt8.ofNat n := fun n => rfl
  rw [e, e]
  by_cases h1 : x < y
  · rw [if_pos h1, if_pos ((u8_lt hx hy).2 h1)]
  · rw [if_neg h1, if_neg (fun h => h1 ((u8_lt hx hy).1 h))]
    by_cases h2 : y < x
    · rw [if_pos h2, if_pos ((u8_lt hy hx).2 h2)]
    · rw [if_neg h2, if_neg (fun h => h2 ((u8_lt hy hx).1 h))]
theorem cmpT_lt : ∀ {a b : List Nat}, a.length = b.length → Byt a → Byt b → (cmpT a b < 0 ↔ nv a < nv b)
  | [], [], _, _, _ => by simp [cmpT, Lib.bytesOf, Lib.compareBytes]
  | [], _ :: _, h, _, _ => by simp at h
  | _ :: _, [], h, _, _ => by simp at h
  | x :: a, y :: b, h, ha, hb => by
    have hl : a.length = b.length := by simpa using h
    have h1 := nv_lt a ha.tail
    have h2 := nv_lt b hb.tail
    have ih := cmpT_lt hl ha.tail hb.tail
    rw [cmpT_cons _ _ _ _ ha.head hb.head, nv_cons, nv_cons, hl]
    rw [hl] at h1
    rcases Nat.lt_trichotomy x y with c | c | c
    · have : (x + 1) * 256 ^ b.length ≤ y * 256 ^ b.length := Nat.mul_le_mul_right _ c
      rw [Nat.succ_mul] at this
      rw [if_pos c]
      omega
    · subst c
      rw [if_neg (Nat.lt_irrefl _), if_neg (Nat.lt_irrefl _), ih]
      omega
    · have : (y + 1) * 256 ^ b.length ≤ x * 256 ^ b.length := Nat.mul_le_mul_right _ c
      rw [Nat.succ_mul] at this
      rw [if_neg (by omega), if_pos c]
      omega
theorem run_bytesT {P : Program} {w : World} {B n : Nat} {A : Option Addr} {a : List Nat} (c : Nat) (h : Reads w B A n (vn .u8 a)) : (Extern.Bytes.bytesOf (.slice A n c)).run P w = .ok ⟨(Lib.bytesOf (a.map Int.ofNat)).toArray⟩ w := by
  have hl := h.nat_len
  cases A with
  | none =>
    have h0 : n = 0 := by
      rcases Nat.eq_zero_or_pos n with e | e
      · exact e
      · obtain ⟨ad, e2, _⟩ := h.cells e; cases e2
    subst h0
    have ha : a = [] := List.eq_nil_of_length_eq_zero hl
    subst ha
    rfl
  | some ad =>
    have h1 := Lib.run_loadBytesX (P := P) w (a.map Int.ofNat) ad .empty (fun j x hj => by
      rw [List.getElem?_map] at hj
      obtain ⟨y, hy, rfl⟩ := Option.map_eq_some_iff.1 hj
      obtain ⟨ad', e, _, hc⟩ := h.cells (by have := (List.getElem?_eq_some_iff.1 hy).1; omega)
      injection e with e
      subst e
      exact hc j _ (by rw [List.getElem?_map, hy]; rfl))
    rw [List.length_map, hl] at h1
    rw [Extern.Bytes.bytesOf, h1]
    congr 2
    rw [show ByteArray.empty.data = #[] from rfl, Array.empty_append]
theorem run_compareT {P : Program} {w : World} {B B' n n' : Nat} {A A' : Option Addr} {a b : List Nat} (c c' : Nat) (h : Reads w B A n (vn .u8 a)) (h' : Reads w B' A' n' (vn .u8 b)) :
    (Extern.BytealgCompare.compare #[.slice A n c, .slice A' n' c']).run P w = .ok (.int .i64 (cmpT a b)) w := by
  change Sem.run P (do pure (goInt (Extern.BytealgCompare.cmp (← Extern.Bytes.bytesOf (.slice A n c)) (← Extern.Bytes.bytesOf (.slice A' n' c'))))) w = _
  simp only [Sem.run_bind, run_bytesT c h, run_bytesT c' h', Result.andThen, Sem.run_pure]
  rw [Lib.cmp_eq]
  rfl
set_option maxHeartbeats 400000 in
set_option maxRecDepth 100000 in
theorem bytes_Compare (A A' : Option Addr) (n n' c c' : Nat) (a b : List Nat) (w : World) {B B' : Nat} (h : Reads w B A n (vn .u8 a)) (h' : Reads w B' A' n' (vn .u8 b)) :
    Calls Try.prog 40 #[.slice A n c, .slice A' n' c'] w (Ret w (.int .i64 (cmpT a b))) := by
  have hr := run_compareT (P := Try.prog) c c' h h'
  clear h h'
  go_enter Try.func40, Try.ntmps40
  go_wp2
  rw [run_callFunc_extern Try.func57 (by kernel_rfl) (by kernel_rfl) (by kernel_rfl) (e := Extern.BytealgCompare.compare) (by kernel_rfl), hr]
  simp only [Result.andThen]
  rw [Oper.upon_value]
  go_wp2
  go_ret
  exact ⟨rfl, rfl⟩
def cmpN (x y : Nat) : Int := if x < y then -1 else if y < x then 1 else 0
theorem cmpN_lt (x y : Nat) : cmpN x y < 0 ↔ x < y := by
  unfold cmpN
  by_cases h : x < y
  · rw [if_pos h]; omega
  · rw [if_neg h]
    by_cases h2 : y < x
    · rw [if_pos h2]; omega
    · rw [if_neg h2]; omega
theorem nan_byte (x : Nat) (w : World) : Calls Try.prog 58 #[.int .u8 (x : Int)] w (Ret w (.bool false)) := by
  go_enter Try.func58, Try.ntmps58
  go_wp2
  go_ret
  exact ⟨rfl, rfl⟩
set_option maxHeartbeats 400000 in
theorem cmp_byte (x y : Nat) (w : World) : Calls Try.prog 44 #[.int .u8 (x : Int), .int .u8 (y : Int)] w (Ret w (.int .i64 (cmpN x y))) := by
  have c1 := nan_byte x w
  have c2 := nan_byte y w
  rcases Nat.lt_trichotomy x y with h | h | h
  · have hz : (x : Int) < (y : Int) := by omega
    have hR : cmpN x y = -1 := by unfold cmpN; rw [if_pos h]
    go_enter Try.func44, Try.ntmps44
    go_wp2_with (first | (go_at_call 58; refine c1.mono ?_; clear c1; rintro e w1 ⟨rfl, rfl⟩) | (go_at_call 58; refine c2.mono ?_; clear c2; rintro e w1 ⟨rfl, rfl⟩))
    go_ret
    rw [hR]
    exact ⟨rfl, rfl⟩
  · subst h
    have hz : ¬ (x : Int) < (x : Int) := by omega
    have hR : cmpN x x = 0 := by unfold cmpN; rw [if_neg (Nat.lt_irrefl _), if_neg (Nat.lt_irrefl _)]
    go_enter Try.func44, Try.ntmps44
    go_wp2_with (first | (go_at_call 58; refine c1.mono ?_; clear c1; rintro e w1 ⟨rfl, rfl⟩) | (go_at_call 58; refine c2.mono ?_; clear c2; rintro e w1 ⟨rfl, rfl⟩))
    go_ret
    rw [hR]
    exact ⟨rfl, rfl⟩
  · have hz : ¬ (x : Int) < (y : Int) := by omega
    have hz2 : (y : Int) < (x : Int) := by omega
    have hR : cmpN x y = 1 := by unfold cmpN; rw [if_neg (by omega), if_pos h]
    go_enter Try.func44, Try.ntmps44
    go_wp2_with (first | (go_at_call 58; refine c1.mono ?_; clear c1; rintro e w1 ⟨rfl, rfl⟩) | (go_at_call 58; refine c2.mono ?_; clear c2; rintro e w1 ⟨rfl, rfl⟩))
    go_ret
    rw [hR]
    exact ⟨rfl, rfl⟩
set_option maxHeartbeats 400000 in
theorem index_zero (A : Option Addr) (n c t : Nat) (r : List Nat) (w : World) {B : Nat} (h : Reads w B A n (vn .i64 r)) (hn : n ≤ 1000) (ht : Hid (r.idxOf 0 = t)) (htn : t < n) :
    Calls Try.prog 41 #[.slice A n c, .int .i64 0] w (RetQ w (.int .i64 (t : Int))) := by
  have H := Lib.hid h.nat_len
  go_enter Try.func41, Try.ntmps41
  go_wp2
  go_loopw [8] (fun iv wr => ∃ i m : Nat, i ≤ t ∧ iv = .int .i64 (i : Int) ∧ wr = w.drewN m) (fun iv _ => n - (intOf iv).toNat)
  case atStart => exact ⟨0, 0, Nat.zero_le _, rfl, rfl⟩
  case round =>
    obtain ⟨i, m, hi, rfl, rfl⟩ := hrel
    obtain ⟨ad, x, rfl, _, hx, hc⟩ := h.nat_at (k := i) (by omega)
    have i1 : (i : Int) < (n : Int) := by omega
    have i0 : (0 : Int) ≤ (i : Int) := by omega
    by_cases e : i = t
    · have hx0 : x = 0 := by
        obtain ⟨h1, h2⟩ := List.getElem?_eq_some_iff.1 hx
        rw [← h2]
        have h3 := List.getElem_idxOf (x := 0) (xs := r) (by rw [ht.out, H.out]; exact htn)
        have h4 : r[i] = r[r.idxOf 0]'(by rw [ht.out, H.out]; exact htn) := by congr 1; rw [ht.out]; exact e
        rw [h4]; exact h3
      subst hx0
      have e0 : ((0 : Nat) : Int) = 0 := rfl
      rw [e0] at hc
      subst e
      clear hx
      go_wp2
      go_ret
      exact ⟨rfl, _, rfl⟩
    · have hx0 : x ≠ 0 := fun h0 => by
        subst h0
        obtain ⟨h1, h2⟩ := List.getElem?_eq_some_iff.1 hx
        have : r.idxOf 0 ≤ i := Nat.not_lt.1 fun hh => by
          have := List.not_of_lt_findIdx (p := (· == 0)) (xs := r) (i := i) hh
          rw [h2] at this
          simp at this
        rw [ht.out] at this
        omega
      have hx1 : ¬ (0 : Int) = (x : Int) := by omega
      have hx2 : ((0 : Int) == (x : Int)) = false := by rw [beq_eq_false_iff_ne]; exact hx1
      clear hx
      go_wp2
      go_roundw
      case rel => exact ⟨i + 1, _, by omega, by go_num, rfl⟩
      case measure => simp [intOf] <;> omega
set_option maxHeartbeats 400000 in
theorem ref_ahead (A A' : Option Addr) (n c c' : Nat) (a b : List Nat) (R : Bool) (w : World) {B B' : Nat} (h : Reads w B A n (vn .u8 a)) (h' : Reads w B' A' n (vn .u8 b)) (hn : n ≤ 1000) (hR : Hid (ahB a b = R)) :
    Calls Try.prog 42 #[.slice A n c, .slice A' n c'] w (RetQ w (.bool R)) := by
  have H := Lib.hid h.nat_len
  have H' := Lib.hid h'.nat_len
  go_enter Try.func42, Try.ntmps42
  go_wp2
  go_loopw [5] (fun iv wr => ∃ i m : Nat, i ≤ n ∧ iv = .int .i64 (i : Int) ∧ wr = w.drewN m ∧ Hid (ahB (a.drop i) (b.drop i) = R)) (fun iv _ => n - (intOf iv).toNat)
  case atStart => exact ⟨0, 0, Nat.zero_le _, rfl, rfl, hR⟩
  case round =>
    obtain ⟨i, m, hi, rfl, rfl, hS⟩ := hrel
    by_cases hlt : i < n
    · obtain ⟨ad, x, rfl, _, hx, hc⟩ := h.nat_at (k := i) hlt
      obtain ⟨ad', y, rfl, _, hy, hc'⟩ := h'.nat_at (k := i) hlt
      have i1 : (i : Int) < (n : Int) := by omega
      have i0 : (0 : Int) ≤ (i : Int) := by omega
      have hd : ahB (a.drop i) (b.drop i) = if x = y then ahB (a.drop (i + 1)) (b.drop (i + 1)) else decide (x < y) := by
        rw [drop_next hx, drop_next hy, ahB]
      clear hx hy
      by_cases e : x = y
      · have HS : Hid (ahB (a.drop (i + 1)) (b.drop (i + 1)) = R) := by unfold Hid; rw [← hS.out, hd, if_pos e]
        subst e
        clear hd hS
        go_wp2
        go_quiet (fail)
        go_wp2
        go_roundw
        case rel => exact ⟨i + 1, _, by omega, by go_num, by first | rfl | rw [World.drewN_drewN], HS⟩
        case measure => simp [intOf] <;> omega
      · have HS : Hid (R = decide (x < y)) := by unfold Hid; rw [← hS.out, hd, if_neg e]
        have e1 : ¬ (x : Int) = (y : Int) := by omega
        have e2 : ((x : Int) != (y : Int)) = true := by simpa using e1
        clear hd hS
        go_wp2
        go_quiet (fail)
        go_wp2
        go_quiet (fail)
        go_wp2
        go_ret
        refine ⟨?_, _, by rw [World.drewN_drewN, World.drewN_drewN]⟩
        rw [HS.out]
        apply ret_b
        apply decide_eq_decide.2
        omega
    · obtain rfl : i = n := by omega
      have i1 : ¬ (i : Int) < (i : Int) := by omega
      have HS : Hid (R = false) := by
        unfold Hid
        rw [← hS.out, List.drop_eq_nil_of_le (Nat.le_of_eq H.out), List.drop_eq_nil_of_le (Nat.le_of_eq H'.out)]
        simp [ahB]
      clear hS
      go_wp2
      go_ret
      rw [HS.out]
      exact ⟨rfl, m, rfl⟩
end Go.Proofs.Ytdidahafbcddeaa

import Derived.Test.YtmepiiheidmbgaaMapB
import Derived.Test.YtmepiiheidmbgaaCloneBools
import Derived.Test.YtmepiiheidmbgaaBools
import Derived.Test.YtmepiiheidmbgaaStore
import Derived.Test.YtmepiiheidmbgaaAppz
set_option linter.unusedVariables false
namespace Go.Proofs.Ytmepiiheidmbgaa
open Go.RowKit

def numR (l : List Bool) : Nat := l.foldl (fun x b => 2 * x + if b then 1 else 0) 0
theorem numR_next {l : List Bool} {k : Nat} {x : Bool} (h : l[k]? = some x) : numR (l.take (k + 1)) = 2 * numR (l.take k) + if x then 1 else 0 := by
  rw [take_next h]; unfold numR; rw [List.foldl_append]; rfl
theorem numR_snoc (l : List Bool) (x : Bool) : numR (l ++ [x]) = 2 * numR l + if x then 1 else 0 := by
  unfold numR; rw [List.foldl_append]; rfl
theorem numR_inj : ∀ (n : Nat) (a b : List Bool), a.length = n → b.length = n → numR a = numR b → a = b := by
  intro n
  induction n with
  | zero => intro a b ha hb _; rw [List.eq_nil_of_length_eq_zero ha, List.eq_nil_of_length_eq_zero hb]
  | succ n ih =>
    intro a b ha hb h
    have ea : a ≠ [] := by intro e; rw [e] at ha; simp at ha
    have eb : b ≠ [] := by intro e; rw [e] at hb; simp at hb
    rw [← List.dropLast_concat_getLast ea, ← List.dropLast_concat_getLast eb, numR_snoc, numR_snoc] at h
    have h1 : numR a.dropLast = numR b.dropLast := by split at h <;> split at h <;> omega
    have h2 : a.getLast ea = b.getLast eb := by
      cases hx : a.getLast ea <;> cases hy : b.getLast eb <;> simp [hx, hy] at h <;> first | rfl | omega
    rw [← List.dropLast_concat_getLast ea, ← List.dropLast_concat_getLast eb, h2, ih _ _ (by simp [ha]) (by simp [hb]) h1]
theorem numR_lt (l : List Bool) : numR l < 2 ^ l.length := by
  suffices h : ∀ (n : Nat) (l : List Bool), l.length = n → numR l < 2 ^ n from h _ l rfl
  intro n
  induction n with
  | zero => intro l h; rw [List.eq_nil_of_length_eq_zero h]; simp [numR]
  | succ n ih =>
    intro l h
    have el : l ≠ [] := by intro e; rw [e] at h; simp at h
    rw [← List.dropLast_concat_getLast el, numR_snoc]
    have := ih l.dropLast (by simp [h])
    rw [Nat.pow_succ]
    split <;> omega
def winR (l : List Bool) (i n : Nat) : List Bool := (l.drop i).take n
theorem winR_len {l : List Bool} {i n : Nat} (h : i + n ≤ l.length) : (winR l i n).length = n := by unfold winR; simp; omega
theorem winR_old {l : List Bool} {i n : Nat} (x : Bool) (h : i + n ≤ l.length) : winR (l ++ [x]) i n = winR l i n := by
  unfold winR
  rw [List.drop_append_of_le_length (by omega), List.take_append_of_le_length (by simp; omega)]
/-- the end of the list, with x behind it -/
def endR (l : List Bool) (n : Nat) (x : Bool) : List Bool := l.drop (l.length + 1 - n) ++ [x]
theorem endR_len {l : List Bool} {n : Nat} (x : Bool) (h1 : 1 ≤ n) (h : n ≤ l.length) : (endR l n x).length = n := by unfold endR; simp; omega
theorem winR_new {l : List Bool} {n : Nat} (x : Bool) (h1 : 1 ≤ n) (h : n ≤ l.length) : winR (l ++ [x]) (l.length + 1 - n) n = endR l n x := by
  unfold winR endR
  rw [List.drop_append_of_le_length (by omega), List.take_of_length_le (by simp; omega)]
def hitR (l : List Bool) (n : Nat) : Bool := (List.range (l.length + 1 - n)).any fun i => decide (winR l i n = endR l n true)
def rdR (n : Nat) : Nat → List Bool
  | 0 => List.replicate n false
  | k + 1 => rdR n k ++ [!hitR (rdR n k) n]
theorem rdR_len (n k : Nat) : (rdR n k).length = n + k := by
  induction k with
  | zero => simp [rdR]
  | succ k ih => rw [rdR, List.length_append, ih]; simp; omega
/-- what has been seen -/
def seenR (l : List Bool) (n : Nat) (a : Int) : Bool := (List.range (l.length + 1 - n)).any fun i => decide ((numR (winR l i n) : Int) = a)
theorem seenR_hit {l : List Bool} {n : Nat} (h1 : 1 ≤ n) (h : n ≤ l.length) : seenR l n (numR (endR l n true) : Int) = hitR l n := by
  unfold seenR hitR
  rw [Bool.eq_iff_iff, List.any_eq_true, List.any_eq_true]
  constructor
  · rintro ⟨i, hi, he⟩
    have hi' := List.mem_range.1 hi
    refine ⟨i, hi, ?_⟩
    simp only [decide_eq_true_eq] at he ⊢
    exact numR_inj n _ _ (winR_len (by omega)) (endR_len _ h1 h) (by omega)
  · rintro ⟨i, hi, he⟩
    refine ⟨i, hi, ?_⟩
    simp only [decide_eq_true_eq] at he ⊢
    rw [he]
theorem seenR_next {l : List Bool} {n : Nat} (x : Bool) (h1 : 1 ≤ n) (h : n ≤ l.length) (a : Int) : (if a = (numR (endR l n x) : Int) then true else seenR l n a) = seenR (l ++ [x]) n a := by
  unfold seenR
  have e1 : (l ++ [x]).length + 1 - n = (l.length + 1 - n) + 1 := by simp; omega
  rw [e1, List.range_succ, List.any_append]
  have e2 : ((List.range (l.length + 1 - n)).any fun i => decide ((numR (winR (l ++ [x]) i n) : Int) = a)) = ((List.range (l.length + 1 - n)).any fun i => decide ((numR (winR l i n) : Int) = a)) := by
    rw [Bool.eq_iff_iff, List.any_eq_true, List.any_eq_true]
    constructor
    · rintro ⟨i, hi, he⟩
      have hi' := List.mem_range.1 hi
      exact ⟨i, hi, by rw [winR_old x (by omega)] at he; exact he⟩
    · rintro ⟨i, hi, he⟩
      have hi' := List.mem_range.1 hi
      exact ⟨i, hi, by rw [winR_old x (by omega)]; exact he⟩
  rw [e2]
  simp only [List.any_cons, List.any_nil, Bool.or_false]
  rw [winR_new x h1 h]
  by_cases ha : a = (numR (endR l n x) : Int)
  · rw [if_pos ha, ha]; simp
  · rw [if_neg ha]
    have : decide ((numR (endR l n x) : Int) = a) = false := by simp; exact fun e => ha e.symm
    rw [this, Bool.or_false]
theorem seenR_start (n : Nat) (a : Int) : (if a = 0 then true else false) = seenR (rdR n 0) n a := by
  unfold seenR rdR
  have e : (List.replicate n false).length + 1 - n = 1 := by simp
  have e0 : winR (List.replicate n false) 0 n = List.replicate n false := by unfold winR; simp
  have e1 : ∀ m, numR (List.replicate m false) = 0 := by
    intro m
    induction m with
    | zero => rfl
    | succ m ih => rw [List.replicate_succ', numR_snoc, ih]; rfl
  rw [e]
  simp only [List.range_succ, List.range_zero, List.nil_append, List.any_cons, List.any_nil, Bool.or_false, e0, e1]
  by_cases ha : a = 0
  · subst ha; rfl
  · rw [if_neg ha]; simp; omega

set_option maxHeartbeats 400000 in
theorem gray_number (A : Option Addr) (n c : Nat) (l : List Bool) (q : Nat) (w : World) {B : Nat} (h : Reads w B A n (vb l)) (hn : n ≤ 40) (hq : Hid (numR l = q)) :
    Calls Try.prog 59 #[.slice A n c] w (Ret w (.int .i64 (q : Int))) := by
  have H := Lib.hid h.bool_len
  go_enter Try.func59, Try.ntmps59
  go_wp2
  go_loop [3, 8] (fun s i => ∃ k p : Nat, k ≤ n ∧ i = .int .i64 k ∧ s = .int .i64 p ∧ p < 1099511627776 ∧ Hid (numR (l.take k) = p)) (fun _ i => n - (intOf i).toNat)
  case atStart => exact ⟨0, 0, by omega, rfl, rfl, by omega, rfl⟩
  case round =>
    obtain ⟨k, p, hk, rfl, rfl, hp, hst⟩ := hrel
    by_cases hlt : k < n
    · obtain ⟨ad, x, rfl, _, hx, hc⟩ := h.bool_at hlt
      have HX : Hid (numR (l.take (k + 1)) = 2 * p + if x then 1 else 0) := by unfold Hid; rw [numR_next hx, hst.out]
      have hb : 2 * p + (if x then 1 else 0) < 1099511627776 := by
        rw [← HX.out]
        have h1 := numR_lt (l.take (k + 1))
        have h2 : (l.take (k + 1)).length ≤ 40 := by rw [List.length_take]; omega
        have h3 : 2 ^ (l.take (k + 1)).length ≤ 2 ^ 40 := Nat.pow_le_pow_right (by omega) h2
        omega
      clear hx hst
      cases x
      · go_wp2
        go_round
        case rel => exact ⟨k + 1, 2 * p, by omega, by go_num, by go_num, by simpa using hb, HX⟩
        case measure => simp [intOf]; omega
      · go_wp2
        go_round
        case rel => exact ⟨k + 1, 2 * p + 1, by omega, by go_num, by go_num, by simpa using hb, HX⟩
        case measure => simp [intOf]; omega
    · obtain rfl : k = n := by omega
      have HE : Hid (p = q) := by unfold Hid; rw [← hst.out, ← hq.out, List.take_of_length_le (Nat.le_of_eq H.out)]
      go_wp2
      go_ret
      exact ⟨by rw [HE.out]; rfl, rfl⟩
end Go.Proofs.Ytmepiiheidmbgaa

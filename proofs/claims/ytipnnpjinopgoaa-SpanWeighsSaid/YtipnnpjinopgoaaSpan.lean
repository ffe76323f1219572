import Derived.Test.YtipnnpjinopgoaaWords
import Derived.Test.YtipnnpjinopgoaaQuiet
set_option linter.unusedVariables false
namespace Go.Proofs.Ytipnnpjinopgoaa
open Go.RowKit

def rowsErr (n : Int) (l : List Nat) : Int := if 8 < l.length then 1 else bitsErr n l
set_option maxHeartbeats 400000 in
theorem span_Check (nb : Int) (A : Option Addr) (n c : Nat) (l : List Nat) (b : Int) (w : World) (h : Reads w w.heap.size A n (vn .u32 l)) (hw : ∀ x ∈ l, x < 4294967296) (hr : Hid (rowsErr nb l = b)) :
    Calls Try.prog 14 #[.int .i64 nb, .slice A n c] w (Ret w (.int .i64 b)) := by
  have H := Lib.hid h.nat_len
  by_cases hn : 8 < n
  · have E : Hid (rowsErr nb l = 1) := by simp [Hid, rowsErr, H.out, hn]
    go_enter Try.func14, Try.ntmps14
    go_wp2
    go_ret
    exact ⟨ret_i (by rw [← hr.out, E.out]), rfl⟩
  · have E : Hid (rowsErr nb l = bitsErr nb l) := by simp [Hid, rowsErr, H.out, hn]
    have c1 := ball_Check nb A n c l (bitsErr nb l) w h rfl (by unfold maxLen; omega) hw
    generalize bitsErr nb l = z at *
    go_enter Try.func14, Try.ntmps14
    go_wp2_with (go_at_call 21; refine c1.mono ?_; rintro e w' ⟨rfl, rfl⟩)
    go_ret
    exact ⟨ret_i (by rw [← hr.out, E.out]), rfl⟩
set_option maxHeartbeats 400000 in
theorem ref_RowsCheck (nb : Int) (A : Option Addr) (n c : Nat) (l : List Nat) (b : Int) (w : World) (h : Reads w w.heap.size A n (vn .u32 l)) (hw : ∀ x ∈ l, x < 4294967296) (hr : Hid (rowsErr nb l = b)) :
    Calls Try.prog 7 #[.int .i64 nb, .slice A n c] w (Ret w (.int .i64 b)) := by
  have H := Lib.hid h.nat_len
  by_cases hn : 8 < n
  · have E : Hid (rowsErr nb l = 1) := by simp [Hid, rowsErr, H.out, hn]
    go_enter Try.func7, Try.ntmps7
    go_wp2
    go_ret
    exact ⟨ret_i (by rw [← hr.out, E.out]), rfl⟩
  · have E : Hid (rowsErr nb l = bitsErr nb l) := by simp [Hid, rowsErr, H.out, hn]
    have c1 := ref_BitsCheck nb A n c l (bitsErr nb l) w h rfl (by unfold maxLen; omega) hw
    generalize bitsErr nb l = z at *
    go_enter Try.func7, Try.ntmps7
    go_wp2_with (go_at_call 16; refine c1.mono ?_; rintro e w' ⟨rfl, rfl⟩)
    go_ret
    exact ⟨ret_i (by rw [← hr.out, E.out]), rfl⟩
theorem rowsErr_ok {nb : Int} {l : List Nat} (h : rowsErr nb l = 0) : l.length ≤ 8 ∧ ∃ n : Nat, nb = n ∧ n ≤ 12 ∧ ∀ x ∈ l, x < 2 ^ n := by
  unfold rowsErr at h
  split at h
  · omega
  · unfold bitsErr at h
    split at h
    · omega
    · split at h
      · rename_i h1 h2 h3
        refine ⟨by omega, nb.toNat, by omega, by omega, fun x hx => ?_⟩
        have := List.all_eq_true.1 h3 x hx
        simpa [fits] using this
      · omega

/-! ### sums of rows -/
/-- the sum of those of the first k rows that are wanted -/
def xsel (rows : List Nat) (p : Nat → Bool) : Nat → Nat
  | 0 => 0
  | k + 1 => if p k then xsel rows p k ^^^ rows.getD k 0 else xsel rows p k
theorem xsel_lt {m : Nat} {rows : List Nat} (h : ∀ x ∈ rows, x < 2 ^ m) (p : Nat → Bool) (k : Nat) : xsel rows p k < 2 ^ m := by
  induction k with
  | zero => exact Nat.pow_pos (by omega)
  | succ k ih =>
    rw [xsel]
    split
    · refine Nat.xor_lt_two_pow ih ?_
      rw [List.getD]
      rcases Nat.lt_or_ge k rows.length with hk | hk
      · rw [List.getElem?_eq_getElem hk]; exact h _ (List.getElem_mem hk)
      · rw [List.getElem?_eq_none hk]; exact Nat.pow_pos (by omega)
    · exact ih
theorem xsel_congr {rows : List Nat} {p q : Nat → Bool} {k : Nat} (h : ∀ j, j < k → p j = q j) : xsel rows p k = xsel rows q k := by
  induction k with
  | zero => rfl
  | succ k ih => rw [xsel, xsel, h k (by omega), ih fun j hj => h j (by omega)]
def setW : List Bool → Nat
  | [] => 0
  | b :: l => (if b then 1 else 0) + 2 * setW l
theorem setW_append (l : List Bool) (b : Bool) : setW (l ++ [b]) = setW l + if b then 2 ^ l.length else 0 := by
  induction l with
  | nil => cases b <;> rfl
  | cons a l ih =>
    rw [List.cons_append, setW, setW, ih, List.length_cons, Nat.pow_succ]
    cases b <;> simp <;> omega
theorem setW_lt (l : List Bool) : setW l < 2 ^ l.length := by
  induction l with
  | nil => simp [setW]
  | cons a l ih => rw [setW, List.length_cons, Nat.pow_succ]; split <;> omega
theorem setW_bit (l : List Bool) (i : Nat) : bitB (setW l) i = l.getD i false := by
  induction l generalizing i with
  | nil => simp [setW, bitB]
  | cons a l ih =>
    cases i with
    | zero => simp only [bitB, setW, Nat.pow_zero, Nat.div_one, List.getD_cons_zero]; cases a <;> simp <;> omega
    | succ i =>
      rw [List.getD_cons_succ, ← ih i, bitB, bitB, setW, Nat.pow_succ, Nat.mul_comm (2 ^ i), ← Nat.div_div_eq_div_mul]
      congr 2
      have : ((if a then 1 else 0) + 2 * setW l) / 2 = setW l := by split <;> omega
      rw [this]
theorem setW_next {l : List Bool} {k : Nat} {x : Bool} (h : l[k]? = some x) : setW (l.take (k + 1)) = setW (l.take k) + if x then 2 ^ k else 0 := by
  have hk := (List.getElem?_eq_some_iff.1 h).1
  rw [take_next h, setW_append, List.length_take, Nat.min_eq_left (Nat.le_of_lt hk)]

def sel (d : List Bool) (i : Nat) : Bool := d.getD i false
def putErr (nb : Int) (rows : List Nat) (data : List Bool) : Int := if rowsErr nb rows ≠ 0 then rowsErr nb rows else if data.length ≠ rows.length then 3 else 0
def putRes (nb : Int) (rows : List Nat) (data : List Bool) : Int × Int := if putErr nb rows data = 0 then ((xsel rows (sel data) rows.length : Nat), 0) else (0, putErr nb rows data)

set_option maxHeartbeats 800000 in
theorem ref_Sum {m : Nat} (A : Option Addr) (n c : Nat) (l : List Nat) (s_ : Nat) (b : Int) (w : World) {B : Nat} (h : Reads w B A n (vn .u32 l)) (hm : m ≤ 12) (hrow : ∀ x ∈ l, x < 2 ^ m) (hn : n ≤ 8) (hs : s_ < 4294967296) (hr : Hid (((xsel l (bitB s_) n : Nat) : Int) = b)) :
    Calls Try.prog 17 #[.slice A n c, .int .u32 (s_ : Int)] w (Ret w (.int .u32 b)) := by
  go_enter Try.func17, Try.ntmps17
  go_wp2
  go_loop [5, 10] (fun s i => ∃ k : Nat, k ≤ n ∧ i = .int .i64 k ∧ s = .int .u32 (xsel l (bitB s_) k)) (fun _ i => n - (intOf i).toNat)
  case atStart => exact ⟨0, by omega, rfl, rfl⟩
  case round =>
    obtain ⟨k, hk, rfl, rfl⟩ := hrel
    by_cases hlt : k < n
    · obtain ⟨ad, x, rfl, hb, hx, hc⟩ := h.nat_at hlt
      have hp := pow_le12 hm
      have hsl := xsel_lt hrow (bitB s_) k
      have hx32 := hrow x (mem_at hx)
      have hmx := u32_xor_nat (xsel l (bitB s_) k) x (by omega) (by omega)
      have cb := fun w => ref_Bit s_ k w hs (by omega)
      have HN : Hid (xsel l (bitB s_) (k + 1) = if bitB s_ k then xsel l (bitB s_) k ^^^ x else xsel l (bitB s_) k) := by
        unfold Hid; rw [xsel]; simp only [List.getD, hx, Option.getD_some]
      clear hx hsl hp hx32
      generalize hz : xsel l (bitB s_) k = z at *
      clear hz
      generalize bitB s_ k = y at *
      cases y
      · go_wp2_with (go_at_call 20; refine (cb _).mono ?_; rintro e w' ⟨rfl, rfl⟩)
        go_round
        case rel => exact ⟨k + 1, by omega, by go_num, by rw [HN.out]; rfl⟩
        case measure => simp only [intOf]; omega
      · go_wp2_with (go_at_call 20; refine (cb _).mono ?_; rintro e w' ⟨rfl, rfl⟩)
        go_round
        case rel => exact ⟨k + 1, by omega, by go_num, by rw [HN.out]; rfl⟩
        case measure => simp only [intOf]; omega
    · obtain rfl : k = n := by omega
      go_wp2
      go_ret
      exact ⟨ret_i hr.out, rfl⟩

end Go.Proofs.Ytipnnpjinopgoaa

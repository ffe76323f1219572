import Derived.Test.YtbkgbmnnnlpefaaWords
import Derived.Test.YtbkgbmnnnlpefaaQuiet
set_option linter.unusedVariables false
namespace Go.Proofs.Ytbkgbmnnnlpefaa
open Go.RowKit

def rowsErr (n : Int) (l : List Nat) : Int := if 8 < l.length then 1 else bitsErr n l
set_option maxHeartbeats 400000 in
theorem span_Check (nb : Int) (A : Option Addr) (n c : Nat) (l : List Nat) (b : Int) (w : World) (h : Reads w w.heap.size A n (vn .u32 l)) (hw : ∀ x ∈ l, x < 4294967296) (hr : Hid (rowsErr nb l = b)) :
    Calls Try.prog 52 #[.int .i64 nb, .slice A n c] w (Ret w (.int .i64 b)) := by
  have H := Lib.hid h.nat_len
  by_cases hn : 8 < n
  · have E : Hid (rowsErr nb l = 1) := by simp [Hid, rowsErr, H.out, hn]
    go_enter Try.func52, Try.ntmps52
    go_wp2
    go_ret
    exact ⟨ret_i (by rw [← hr.out, E.out]), rfl⟩
  · have E : Hid (rowsErr nb l = bitsErr nb l) := by simp [Hid, rowsErr, H.out, hn]
    have c1 := ball_Check nb A n c l (bitsErr nb l) w h rfl (by unfold maxLen; omega) hw
    generalize bitsErr nb l = z at *
    go_enter Try.func52, Try.ntmps52
    go_wp2_with (go_at_call 49; refine c1.mono ?_; rintro e w' ⟨rfl, rfl⟩)
    go_ret
    exact ⟨ret_i (by rw [← hr.out, E.out]), rfl⟩
set_option maxHeartbeats 400000 in
theorem ref_RowsCheck (nb : Int) (A : Option Addr) (n c : Nat) (l : List Nat) (b : Int) (w : World) (h : Reads w w.heap.size A n (vn .u32 l)) (hw : ∀ x ∈ l, x < 4294967296) (hr : Hid (rowsErr nb l = b)) :
    Calls Try.prog 31 #[.int .i64 nb, .slice A n c] w (Ret w (.int .i64 b)) := by
  have H := Lib.hid h.nat_len
  by_cases hn : 8 < n
  · have E : Hid (rowsErr nb l = 1) := by simp [Hid, rowsErr, H.out, hn]
    go_enter Try.func31, Try.ntmps31
    go_wp2
    go_ret
    exact ⟨ret_i (by rw [← hr.out, E.out]), rfl⟩
  · have E : Hid (rowsErr nb l = bitsErr nb l) := by simp [Hid, rowsErr, H.out, hn]
    have c1 := ref_BitsCheck nb A n c l (bitsErr nb l) w h rfl (by unfold maxLen; omega) hw
    generalize bitsErr nb l = z at *
    go_enter Try.func31, Try.ntmps31
    go_wp2_with (go_at_call 24; refine c1.mono ?_; rintro e w' ⟨rfl, rfl⟩)
    go_ret
    exact ⟨ret_i (by rw [← hr.out, E.out]), rfl⟩
theorem rowsErr_ok {nb : Int} {l : List Nat} (h : rowsErr nb l = 0) : l.length ≤ 8 ∧ ∃ n : Nat, nb = n ∧ n ≤ 12 ∧ ∀ x ∈ l, x < 2 ^ n := by
  unfold rowsErr at h
  split at h
  · omega
  · unfold bitsErr at h
    split at h
    · omega
    · split at h
      · rename_i h1 h2 h3
        refine ⟨by omega, nb.toNat, by omega, by omega, fun x hx => ?_⟩
        have := List.all_eq_true.1 h3 x hx
        simpa [fits] using this
      · omega

/-! ### sums of rows -/
/-- the sum of those of the first k rows that are wanted -/
def xsel (rows : List Nat) (p : Nat → Bool) : Nat → Nat
  | 0 => 0
  | k + 1 => if p k then xsel rows p k ^^^ rows.getD k 0 else xsel rows p k
theorem xsel_lt {m : Nat} {rows : List Nat} (h : ∀ x ∈ rows, x < 2 ^ m) (p : Nat → Bool) (k : Nat) : xsel rows p k < 2 ^ m := by
  induction k with
  | zero => exact Nat.pow_pos (by omega)
  | succ k ih =>
    rw [xsel]
    split
    · refine Nat.xor_lt_two_pow ih ?_
      rw [List.getD]
      rcases Nat.lt_or_ge k rows.length with hk | hk
      · rw [List.getElem?_eq_getElem hk]; exact h _ (List.getElem_mem hk)
      · rw [List.getElem?_eq_none hk]; exact Nat.pow_pos (by omega)
    · exact ih
theorem xsel_congr {rows : List Nat} {p q : Nat → Bool} {k : Nat} (h : ∀ j, j < k → p j = q j) : xsel rows p k = xsel rows q k := by
  induction k with
  | zero => rfl
  | succ k ih => rw [xsel, xsel, h k (by omega), ih fun j hj => h j (by omega)]
def setW : List Bool → Nat
  | [] => 0
  | b :: l => (if b then 1 else 0) + 2 * setW l
theorem setW_append (l : List Bool) (b : Bool) : setW (l ++ [b]) = setW l + if b then 2 ^ l.length else 0 := by
  induction l with
  | nil => cases b <;> rfl
  | cons a l ih =>
    rw [List.cons_append, setW, setW, ih, List.length_cons, Nat.pow_succ]
    cases b <;> simp <;> omega
theorem setW_lt (l : List Bool) : setW l < 2 ^ l.length := by
  induction l with
  | nil => simp [setW]
  | cons a l ih => rw [setW, List.length_cons, Nat.pow_succ]; split <;> omega
theorem setW_bit (l : List Bool) (i : Nat) : bitB (setW l) i = l.getD i false := by
  induction l generalizing i with
  | nil => simp [setW, bitB]
  | cons a l ih =>
    cases i with
    | zero => simp only [bitB, setW, Nat.pow_zero, Nat.div_one, List.getD_cons_zero]; cases a <;> simp <;> omega
    | succ i =>
      rw [List.getD_cons_succ, ← ih i, bitB, bitB, setW, Nat.pow_succ, Nat.mul_comm (2 ^ i), ← Nat.div_div_eq_div_mul]
      congr 2
      have : ((if a then 1 else 0) + 2 * setW l) / 2 = setW l := by split <;> omega
      rw [this]
theorem setW_next {l : List Bool} {k : Nat} {x : Bool} (h : l[k]? = some x) : setW (l.take (k + 1)) = setW (l.take k) + if x then 2 ^ k else 0 := by
  have hk := (List.getElem?_eq_some_iff.1 h).1
  rw [take_next h, setW_append, List.length_take, Nat.min_eq_left (Nat.le_of_lt hk)]

def sel (d : List Bool) (i : Nat) : Bool := d.getD i false
def putErr (nb : Int) (rows : List Nat) (data : List Bool) : Int := if rowsErr nb rows ≠ 0 then rowsErr nb rows else if data.length ≠ rows.length then 3 else 0
def putRes (nb : Int) (rows : List Nat) (data : List Bool) : Int × Int := if putErr nb rows data = 0 then ((xsel rows (sel data) rows.length : Nat), 0) else (0, putErr nb rows data)

set_option maxHeartbeats 800000 in
theorem span_Put (nb : Int) (A : Option Addr) (n c : Nat) (l : List Nat) (A' : Option Addr) (n' c' : Nat) (d : List Bool) (a b : Int) (w : World) (h : Reads w w.heap.size A n (vn .u32 l)) (hw : ∀ x ∈ l, x < 4294967296) (h' : Reads w w.heap.size A' n' (vb d)) (hr : Hid (putRes nb l d = (a, b))) :
    Calls Try.prog 30 #[.int .i64 nb, .slice A n c, .slice A' n' c'] w (Ret w (.tuple #[.int .u32 a, .int .i64 b])) := by
  have H := Lib.hid h.nat_len
  have H' := Lib.hid h'.bool_len
  have c1 := span_Check nb A n c l (rowsErr nb l) w h hw rfl
  by_cases h0 : rowsErr nb l = 0
  · rw [h0] at c1
    by_cases hne : n' = n
    · have E : Hid (putRes nb l d = (((xsel l (sel d) n : Nat) : Int), 0)) := by simp [Hid, putRes, putErr, h0, H.out, H'.out, hne]
      obtain ⟨h8, m, rfl, hm, hrow⟩ := rowsErr_ok h0
      have hn8 : n ≤ 8 := by rw [← H.out]; exact h8
      have hneb : ((n' : Int) != (n : Int)) = false := by simp; omega
      clear h0 h8
      subst hne
      go_enter Try.func30, Try.ntmps30
      go_wp2_with (go_at_call 52; refine c1.mono ?_; rintro e w' ⟨rfl, rfl⟩)
      go_loop [9, 25] (fun s i => ∃ k : Nat, k ≤ n' ∧ i = .int .i64 k ∧ s = .int .u32 (xsel l (sel d) k)) (fun _ i => n' - (intOf i).toNat)
      case atStart => exact ⟨0, by omega, rfl, rfl⟩
      case round =>
        obtain ⟨k, hk, rfl, rfl⟩ := hrel
        by_cases hlt : k < n'
        · obtain ⟨ad, x, rfl, hb, hx, hc⟩ := h.nat_at hlt
          obtain ⟨ad', y, rfl, hb', hy, hc'⟩ := h'.bool_at hlt
          have hp := pow_le12 hm
          have hs := xsel_lt hrow (sel d) k
          have hx32 := hw x (mem_at hx)
          have hmx := u32_xor_nat (xsel l (sel d) k) x (by omega) hx32
          have HN : Hid (xsel l (sel d) (k + 1) = if y then xsel l (sel d) k ^^^ x else xsel l (sel d) k) := by
            unfold Hid; rw [xsel]; simp only [sel, List.getD, hx, hy, Option.getD_some]
          clear hx hy hs hp
          generalize hz : xsel l (sel d) k = z at *
          clear hz
          cases y
          · go_wp2
            go_round
            case rel => exact ⟨k + 1, by omega, by go_num, by rw [HN.out]; rfl⟩
            case measure => simp only [intOf]; omega
          · go_wp2
            go_round
            case rel => exact ⟨k + 1, by omega, by go_num, by rw [HN.out]; rfl⟩
            case measure => simp only [intOf]; omega
        · obtain rfl : k = n' := by omega
          go_wp2
          go_ret2
          exact ⟨ret_ii (by rw [← hr.out, E.out]), rfl⟩
    · have E : Hid (putRes nb l d = (0, 3)) := by simp [Hid, putRes, putErr, h0, H.out, H'.out, hne]
      have hneb : ((n' : Int) != (n : Int)) = true := by simp; omega
      clear h0
      go_enter Try.func30, Try.ntmps30
      go_wp2_with (go_at_call 52; refine c1.mono ?_; rintro e w' ⟨rfl, rfl⟩)
      go_ret2
      exact ⟨ret_ii (by rw [← hr.out, E.out]), rfl⟩
  · have E : Hid (putRes nb l d = (0, rowsErr nb l)) := by simp [Hid, putRes, putErr, h0]
    generalize rowsErr nb l = z at *
    go_enter Try.func30, Try.ntmps30
    go_wp2_with (go_at_call 52; refine c1.mono ?_; rintro e w' ⟨rfl, rfl⟩)
    go_ret2
    exact ⟨ret_ii (by rw [← hr.out, E.out]), rfl⟩

set_option maxHeartbeats 800000 in
theorem ref_Sum {m : Nat} (A : Option Addr) (n c : Nat) (l : List Nat) (s_ : Nat) (b : Int) (w : World) {B : Nat} (h : Reads w B A n (vn .u32 l)) (hm : m ≤ 12) (hrow : ∀ x ∈ l, x < 2 ^ m) (hn : n ≤ 8) (hs : s_ < 4294967296) (hr : Hid (((xsel l (bitB s_) n : Nat) : Int) = b)) :
    Calls Try.prog 32 #[.slice A n c, .int .u32 (s_ : Int)] w (Ret w (.int .u32 b)) := by
  go_enter Try.func32, Try.ntmps32
  go_wp2
  go_loop [5, 10] (fun s i => ∃ k : Nat, k ≤ n ∧ i = .int .i64 k ∧ s = .int .u32 (xsel l (bitB s_) k)) (fun _ i => n - (intOf i).toNat)
  case atStart => exact ⟨0, by omega, rfl, rfl⟩
  case round =>
    obtain ⟨k, hk, rfl, rfl⟩ := hrel
    by_cases hlt : k < n
    · obtain ⟨ad, x, rfl, hb, hx, hc⟩ := h.nat_at hlt
      have hp := pow_le12 hm
      have hsl := xsel_lt hrow (bitB s_) k
      have hx32 := hrow x (mem_at hx)
      have hmx := u32_xor_nat (xsel l (bitB s_) k) x (by omega) (by omega)
      have cb := fun w => ref_Bit s_ k w hs (by omega)
      have HN : Hid (xsel l (bitB s_) (k + 1) = if bitB s_ k then xsel l (bitB s_) k ^^^ x else xsel l (bitB s_) k) := by
        unfold Hid; rw [xsel]; simp only [List.getD, hx, Option.getD_some]
      clear hx hsl hp hx32
      generalize hz : xsel l (bitB s_) k = z at *
      clear hz
      generalize bitB s_ k = y at *
      cases y
      · go_wp2_with (go_at_call 51; refine (cb _).mono ?_; rintro e w' ⟨rfl, rfl⟩)
        go_round
        case rel => exact ⟨k + 1, by omega, by go_num, by rw [HN.out]; rfl⟩
        case measure => simp only [intOf]; omega
      · go_wp2_with (go_at_call 51; refine (cb _).mono ?_; rintro e w' ⟨rfl, rfl⟩)
        go_round
        case rel => exact ⟨k + 1, by omega, by go_num, by rw [HN.out]; rfl⟩
        case measure => simp only [intOf]; omega
    · obtain rfl : k = n := by omega
      go_wp2
      go_ret
      exact ⟨ret_i hr.out, rfl⟩

set_option maxHeartbeats 800000 in
theorem SpanPuts_walk (nb : Int) (A : Option Addr) (n c : Nat) (l : List Nat) (A' : Option Addr) (n' c' : Nat) (d : List Bool) (w : World) (_ : (Lit.int .i64 nb).wf = true) (h : Reads w w.heap.size A n (vn .u32 l)) (hw : ∀ x ∈ l, x < 4294967296) (_ : n * 4 ≤ reachBytes) (h' : Reads w w.heap.size A' n' (vb d)) (hn' : n' * 1 ≤ reachBytes) :
    Calls Try.prog 8 #[.int .i64 nb, .slice A n c, .slice A' n' c'] w (LawTrue w) := by
  have H := Lib.hid h.nat_len
  have H' := Lib.hid h'.bool_len
  have c2 := ref_RowsCheck nb A n c l (rowsErr nb l) w h hw rfl
  by_cases h0 : rowsErr nb l = 0
  · rw [h0] at c2
    by_cases hne : n' = n
    · have c1 := span_Put nb A n c l A' n' c' d (xsel l (sel d) n : Nat) 0 w h hw h' (by simp [Hid, putRes, putErr, h0, H.out, H'.out, hne])
      obtain ⟨h8, m, rfl, hm, hrow⟩ := rowsErr_ok h0
      have hn8 : n ≤ 8 := by rw [← H.out]; exact h8
      have hneb : ((n' : Int) != (n : Int)) = false := by simp; omega
      have HE : Hid (xsel l (bitB (setW d)) n = xsel l (sel d) n) := xsel_congr fun j _ => setW_bit d j
      have hsw := setW_lt d
      rw [H'.out, hne] at hsw
      have hp8 := Nat.pow_le_pow_right (n := 2) (by omega) hn8
      have c3 := fun w' (hq : Reads w' w.heap.size A n (vn .u32 l)) => ref_Sum A n c l (setW d) _ w' hq hm hrow hn8 (by omega) rfl
      rw [HE.out] at c3
      generalize xsel l (sel d) n = X at *
      clear h0 h8 HE
      subst hne
      go_enter Try.func8, Try.ntmps8
      go_wp2_with (first | (go_at_call 30; refine c1.mono ?_; rintro e w' ⟨rfl, rfl⟩) | (go_at_call 31; refine c2.mono ?_; rintro e w' ⟨rfl, rfl⟩))
      go_loop [10, 43] (fun s i => ∃ k : Nat, k ≤ n' ∧ i = .int .i64 k ∧ s = .int .u32 (setW (d.take k))) (fun _ i => n' - (intOf i).toNat)
      case atStart => exact ⟨0, by omega, rfl, by simp [setW]⟩
      case round =>
        obtain ⟨k, hk, rfl, rfl⟩ := hrel
        by_cases hlt : k < n'
        · obtain ⟨ad', y, rfl, hb', hy, hc'⟩ := h'.bool_at hlt
          have HN := Lib.hid (setW_next hy)
          have hs1 := setW_lt (d.take k)
          have hs2 : (d.take k).length ≤ k := List.length_take_le _ _
          have hs3 := Nat.pow_le_pow_right (n := 2) (by omega) hs2
          have hs4 := pow_le12 (m := k) (by omega)
          have es := shl_int (m := k) (by omega)
          obtain ⟨p, hp⟩ : ∃ p, p = 2 ^ k := ⟨_, rfl⟩
          have HP := Lib.hid hp
          rw [← hp] at es hs3 hs4
          have hs5 : setW (d.take k) < 4096 := by omega
          clear hy hs1 hs2 hs3 hp hsw hp8
          generalize hz : setW (d.take k) = z at *
          clear hz
          cases y
          · go_wp2
            go_round
            case rel => exact ⟨k + 1, by omega, by go_num, by rw [HN.out]; simp⟩
            case measure => simp only [intOf]; omega
          · go_wp2
            go_round
            case rel => exact ⟨k + 1, by omega, by go_num, by rw [HN.out, ← HP.out]; simp⟩
            case measure => simp only [intOf]; omega
        · obtain rfl : k = n' := by omega
          rw [List.take_of_length_le (Nat.le_of_eq H'.out)]
          have c4 := c3 w h
          clear c3
          go_wp2_with (go_at_call 32; refine c4.mono ?_; rintro e w' ⟨rfl, rfl⟩)
          go_ret
          exact .same _
    · have c1 := span_Put nb A n c l A' n' c' d 0 3 w h hw h' (by simp [Hid, putRes, putErr, h0, H.out, H'.out, hne])
      have hneb : ((n' : Int) != (n : Int)) = true := by simp; omega
      clear h0
      go_enter Try.func8, Try.ntmps8
      go_wp2_with (first | (go_at_call 30; refine c1.mono ?_; rintro e w' ⟨rfl, rfl⟩) | (go_at_call 31; refine c2.mono ?_; rintro e w' ⟨rfl, rfl⟩))
      go_ret
      exact .same _
  · have c1 := span_Put nb A n c l A' n' c' d 0 (rowsErr nb l) w h hw h' (by simp [Hid, putRes, putErr, h0])
    generalize rowsErr nb l = z at *
    have hz1 : (z == 0) = false := by simpa using h0
    have hz2 : (z != 0) = true := by simpa using h0
    clear h0
    go_enter Try.func8, Try.ntmps8
    go_wp2_with (first | (go_at_call 30; refine c1.mono ?_; rintro e w' ⟨rfl, rfl⟩) | (go_at_call 31; refine c2.mono ?_; rintro e w' ⟨rfl, rfl⟩))
    go_ret
    exact .same _
end Go.Proofs.Ytbkgbmnnnlpefaa

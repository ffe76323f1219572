import Derived.Test.YtbkgbmnnnlpefaaBall
import Derived.Test.YtbkgbmnnnlpefaaIdx
import Derived.Test.YtbkgbmnnnlpefaaQuiet
set_option linter.unusedVariables false
namespace Go.Proofs.Ytbkgbmnnnlpefaa
open Go.RowKit

/-! ### the library's Index and Contains over words -/
def isW (l : List Nat) (v : Nat) (k : Nat) : Bool := decide (l[k]? = some v)
set_option maxHeartbeats 400000 in
theorem idx_u32 (A : Option Addr) (n c : Nat) (l : List Nat) (v : Nat) (r : Int) (w : World) {B : Nat} (h : Reads w B A n (vn .u32 l)) (hn : n ≤ maxLen) (hr : Hid (idxOf (isW l v) n = r)) :
    Calls Try.prog 59 #[.slice A n c, .int .u32 (v : Int)] w (Ret w (.int .i64 r)) := by
  unfold maxLen at hn
  go_enter Try.func59, Try.ntmps59
  go_wp2
  go_loop [8] (fun i => ∃ k : Nat, k ≤ n ∧ i = .int .i64 k ∧ Hid (∀ j, j < k → isW l v j = false)) (fun i => n - (intOf i).toNat)
  case atStart => exact ⟨0, by omega, rfl, fun j hj => absurd hj (by omega)⟩
  case round =>
    obtain ⟨k, hk, rfl, hall⟩ := hrel
    by_cases hlt : k < n
    · obtain ⟨ad, x, rfl, hb, hx, hc⟩ := h.nat_at hlt
      by_cases he : v = x
      · subst he
        have ht : ((v : Int) == (v : Int)) = true := by simp
        have HI := Lib.hid (idxOf_hit hlt (by simp [isW, hx]) hall.out)
        clear hx
        go_wp2
        go_ret
        exact ⟨ret_i (by rw [← hr.out, HI.out]), rfl⟩
      · have ht : ((v : Int) == (x : Int)) = false := by simp; omega
        have HA : Hid (∀ j, j < k + 1 → isW l v j = false) := fun j hj => by
          rcases Nat.lt_or_ge j k with h1 | h1
          · exact hall.out j h1
          · obtain rfl : j = k := by omega
            simp [isW, hx]; omega
        clear hx he
        go_wp2
        go_round
        case rel => exact ⟨k + 1, by omega, by go_num, HA⟩
        case measure => simp only [intOf]; omega
    · obtain rfl : k = n := by omega
      have HI := Lib.hid (idxOf_none hall.out)
      go_wp2
      go_ret
      exact ⟨ret_i (by rw [← hr.out, HI.out]), rfl⟩
set_option maxHeartbeats 400000 in
theorem contains_u32 (A : Option Addr) (n c : Nat) (l : List Nat) (v : Nat) (b : Bool) (w : World) {B : Nat} (h : Reads w B A n (vn .u32 l)) (hn : n ≤ maxLen) (hr : Hid (decide (v ∈ l) = b)) :
    Calls Try.prog 53 #[.slice A n c, .int .u32 (v : Int)] w (Ret w (.bool b)) := by
  have cc := idx_u32 A n c l v (idxOf (isW l v) n) w h hn rfl
  have HB : Hid (decide (0 ≤ idxOf (isW l v) n) = b) := by
    unfold Hid
    rw [← hr.out, anyTo_idx, ← h.nat_len, anyTo_list l (fun x => decide (x = v)) _ (fun k x hx => by simp [isW, hx]), Bool.eq_iff_iff]
    simp only [List.any_eq_true, decide_eq_true_eq]
    exact ⟨fun ⟨x, h1, h2⟩ => h2 ▸ h1, fun h1 => ⟨v, h1, rfl⟩⟩
  generalize idxOf (isW l v) n = z at *
  go_enter Try.func53, Try.ntmps53
  go_wp2_with (go_at_call 59; refine cc.mono ?_; rintro e w' ⟨rfl, rfl⟩)
  go_ret
  exact ⟨ret_b (by rw [← HB.out]), rfl⟩

/-! ### what is wrong with a book -/
def scanErr (m : Nat) : List Nat → List Nat → Int
  | _, [] => 0
  | seen, x :: l => if ¬ x < 2 ^ m then 4 else if x ∈ seen then 3 else scanErr m (seen ++ [x]) l
def bookErr (n : Int) (l : List Nat) : Int := if n < 0 ∨ 12 < n ∨ 64 < l.length then 1 else scanErr n.toNat [] l
theorem scan_ok {m : Nat} (l seen : List Nat) (h : scanErr m seen l = 0) : ∀ x ∈ l, x < 2 ^ m := by
  induction l generalizing seen with
  | nil => intro x hx; simp at hx
  | cons y l ih =>
    rw [scanErr] at h
    split at h
    · omega
    · split at h
      · omega
      · intro x hx
        rcases List.mem_cons.1 hx with rfl | hx
        · omega
        · exact ih _ h x hx
theorem bookErr_ok {n : Int} {l : List Nat} (h : bookErr n l = 0) : ∃ m : Nat, n = m ∧ m ≤ 12 ∧ l.length ≤ 64 ∧ ∀ x ∈ l, x < 2 ^ m := by
  unfold bookErr at h
  split at h
  · omega
  · exact ⟨n.toNat, by omega, by omega, by omega, scan_ok _ _ h⟩
theorem bookErr_big {n : Int} {l : List Nat} (h : n < 0 ∨ 12 < n ∨ 64 < l.length) : bookErr n l = 1 := by simp [bookErr, h]
theorem bookErr_in {m : Nat} {l : List Nat} (h1 : m ≤ 12) (h2 : l.length ≤ 64) : bookErr m l = scanErr m [] l := by
  unfold bookErr; rw [if_neg (by omega), Int.toNat_natCast]
theorem scan_step {m k x : Nat} {l : List Nat} (hx : l[k]? = some x) : scanErr m (l.take k) (l.drop k) = if ¬ x < 2 ^ m then 4 else if x ∈ l.take k then 3 else scanErr m (l.take (k + 1)) (l.drop (k + 1)) := by
  rw [drop_next hx, scanErr, take_next hx]

set_option maxHeartbeats 1600000 in
theorem book_Check (nb : Int) (A : Option Addr) (n c : Nat) (l : List Nat) (b : Int) (w : World) (h : Reads w w.heap.size A n (vn .u32 l)) (hw : ∀ x ∈ l, x < 4294967296) (hnc : n ≤ c) (hr : Hid (bookErr nb l = b)) :
    Calls Try.prog 33 #[.int .i64 nb, .slice A n c] w (Ret w (.int .i64 b)) := by
  have H := Lib.hid h.nat_len
  have c0 := fun b hb => ball_Check nb none 0 0 [] b w (Reads.none_) hb (by unfold maxLen; omega) (by simp)
  by_cases hn : nb < 0 ∨ 12 < nb
  · have c1 := c0 1 (bitsErr_n [] hn)
    have E : Hid (bookErr nb l = 1) := bookErr_big (by omega)
    clear c0 hn
    go_enter Try.func33, Try.ntmps33
    go_wp2_with (go_at_call 49; refine c1.mono ?_; rintro e w' ⟨rfl, rfl⟩)
    go_ret
    exact ⟨ret_i (by rw [← hr.out, E.out]), rfl⟩
  · have c1 := c0 0 (by simp [Hid, bitsErr, hn])
    clear c0
    by_cases hbig : 64 < n
    · have E : Hid (bookErr nb l = 1) := bookErr_big (by rw [H.out]; omega)
      clear hn
      go_enter Try.func33, Try.ntmps33
      go_wp2_with (go_at_call 49; refine c1.mono ?_; rintro e w' ⟨rfl, rfl⟩)
      go_ret
      exact ⟨ret_i (by rw [← hr.out, E.out]), rfl⟩
    · have h0 : 0 ≤ nb := by omega
      have h12 : nb ≤ 12 := by omega
      obtain ⟨m, rfl⟩ := Int.eq_ofNat_of_zero_le h0
      have E : Hid (bookErr m l = scanErr m (l.take 0) (l.drop 0)) := bookErr_in (by omega) (by rw [H.out]; omega)
      clear hn
      go_enter Try.func33, Try.ntmps33
      go_wp2_with (go_at_call 49; refine c1.mono ?_; rintro e w' ⟨rfl, rfl⟩)
      go_loop [17] (fun i => ∃ k : Nat, k ≤ n ∧ i = .int .i64 k ∧ Hid (scanErr m (l.take k) (l.drop k) = b)) (fun i => n - (intOf i).toNat)
      case atStart => exact ⟨0, by omega, rfl, by unfold Hid; rw [← E.out, hr.out]⟩
      case round =>
        obtain ⟨k, hk, rfl, hall⟩ := hrel
        by_cases hlt : k < n
        · obtain ⟨ad, x, rfl, hb, hx, hc⟩ := h.nat_at hlt
          have hx32 := hw x (mem_at hx)
          have HS := Lib.hid (scan_step (m := m) hx)
          have hcap : k ≤ c := by omega
          have hn64 : n ≤ 64 := by omega
          have ct := fun A' c' (hq : Reads w w.heap.size A' k (vn .u32 (l.take k))) => contains_u32 A' k c' (l.take k) x (decide (x ∈ l.take k)) w hq (by unfold maxLen; omega) rfl
          have ht := shr_test (x := x) (m := m)
          clear hx
          by_cases hbig : 2 ^ m ≤ x
          · have HB : Hid (b = 4) := by unfold Hid; rw [← hall.out, HS.out, if_pos (by omega)]
            rw [decide_eq_true hbig] at ht
            clear hbig ct
            go_wp2
            go_ret
            exact ⟨ret_i HB.out.symm, rfl⟩
          · rw [decide_eq_false hbig] at ht
            have HS2 : Hid (b = if x ∈ l.take k then 3 else scanErr m (l.take (k + 1)) (l.drop (k + 1))) := by
              unfold Hid; rw [← hall.out, HS.out, if_neg (by omega)]
            clear hbig HS
            have ct2 := ct (some ad) c (h.takeN (by omega))
            by_cases hin : x ∈ l.take k
            · have HB : Hid (b = 3) := by unfold Hid; rw [HS2.out, if_pos hin]
              rw [decide_eq_true hin] at ct2
              clear ct hin HS2
              go_wp2_with (go_at_call 53; refine ct2.mono ?_; rintro e w' ⟨rfl, rfl⟩)
              go_ret
              exact ⟨ret_i HB.out.symm, rfl⟩
            · have HB : Hid (scanErr m (l.take (k + 1)) (l.drop (k + 1)) = b) := by unfold Hid; rw [HS2.out, if_neg hin]
              rw [decide_eq_false hin] at ct2
              clear ct hin HS2
              go_wp2_with (go_at_call 53; refine ct2.mono ?_; rintro e w' ⟨rfl, rfl⟩)
              go_round
              case rel => exact ⟨k + 1, by omega, by go_num, HB⟩
              case measure => simp only [intOf]; omega
        · obtain rfl : k = n := by omega
          have HB : Hid (b = 0) := by
            unfold Hid; rw [← hall.out, List.drop_of_length_le (Nat.le_of_eq H.out)]; rfl
          go_wp2
          go_ret
          exact ⟨ret_i HB.out.symm, rfl⟩
set_option maxHeartbeats 1600000 in
theorem ref_BookCheck (nb : Int) (A : Option Addr) (n c : Nat) (l : List Nat) (b : Int) (w : World) (h : Reads w w.heap.size A n (vn .u32 l)) (hw : ∀ x ∈ l, x < 4294967296) (hnc : n ≤ c) (hr : Hid (bookErr nb l = b)) :
    Calls Try.prog 34 #[.int .i64 nb, .slice A n c] w (Ret w (.int .i64 b)) := by
  have H := Lib.hid h.nat_len
  by_cases hn : nb < 0 ∨ 12 < nb ∨ 64 < n
  · have E : Hid (bookErr nb l = 1) := bookErr_big (by rw [H.out]; omega)
    by_cases h0 : nb < 0
    · go_enter Try.func34, Try.ntmps34
      go_wp2
      go_ret
      exact ⟨ret_i (by rw [← hr.out, E.out]), rfl⟩
    · by_cases h1 : 12 < nb
      · clear hn
        go_enter Try.func34, Try.ntmps34
        go_wp2
        go_ret
        exact ⟨ret_i (by rw [← hr.out, E.out]), rfl⟩
      · have h2 : (64 : Int) < n := by omega
        clear hn
        go_enter Try.func34, Try.ntmps34
        go_wp2
        go_ret
        exact ⟨ret_i (by rw [← hr.out, E.out]), rfl⟩
  · have h0 : 0 ≤ nb := by omega
    have h12 : nb ≤ 12 := by omega
    have hn64 : n ≤ 64 := by omega
    obtain ⟨m, rfl⟩ := Int.eq_ofNat_of_zero_le h0
    have E : Hid (bookErr m l = scanErr m (l.take 0) (l.drop 0)) := bookErr_in (by omega) (by rw [H.out]; omega)
    have d1 : decide ((m : Int) < 0) = false := decide_eq_false (by omega)
    have d2 : decide ((12 : Int) < m) = false := decide_eq_false (by omega)
    have d3 : decide ((64 : Int) < n) = false := decide_eq_false (by omega)
    clear hn
    go_enter Try.func34, Try.ntmps34
    go_wp2
    go_loop [22] (fun i => ∃ k : Nat, k ≤ n ∧ i = .int .i64 k ∧ Hid (scanErr m (l.take k) (l.drop k) = b)) (fun i => n - (intOf i).toNat)
    case atStart => exact ⟨0, by omega, rfl, by unfold Hid; rw [← E.out, hr.out]⟩
    case round =>
      obtain ⟨k, hk, rfl, hall⟩ := hrel
      by_cases hlt : k < n
      · obtain ⟨ad, x, e, hb, hx, hc⟩ := h.nat_at hlt
        subst e
        have hx32 := hw x (mem_at hx)
        have HS := Lib.hid (scan_step (m := m) hx)
        have hcap : k ≤ c := by omega
        have hr2 := h.takeN (k := k) (by omega)
        have es := Lib.hid (shl_int (m := m) (by omega))
        have HX := Lib.hid hx
        clear hx
        by_cases hbig : 2 ^ m ≤ x
        · have HB : Hid (b = 4) := by unfold Hid; rw [← hall.out, HS.out, if_pos (by omega)]
          have ht : (2 : Int) ^ m % 4294967296 ≤ (x : Int) := by rw [es.out]; exact Int.ofNat_le.2 hbig
          clear hbig hr2
          go_wp2
          go_ret
          exact ⟨ret_i HB.out.symm, rfl⟩
        · have ht : ¬ (2 : Int) ^ m % 4294967296 ≤ (x : Int) := by rw [es.out]; intro h; exact hbig (Int.ofNat_le.1 h)
          have HS2 : Hid (b = if x ∈ l.take k then 3 else scanErr m (l.take (k + 1)) (l.drop (k + 1))) := by
            unfold Hid; rw [← hall.out, HS.out, if_neg (by omega)]
          clear hbig HS
          go_wp2
          go_loop [36] (fun i => ∃ j : Nat, j ≤ k ∧ i = .int .i64 j ∧ Hid (x ∉ (l.take k).take j)) (fun i => k - (intOf i).toNat)
          case atStart => exact ⟨0, by omega, rfl, by simp [Hid]⟩
          case round =>
            obtain ⟨j, hj, rfl, hno⟩ := hrel
            by_cases hlt2 : j < k
            · obtain ⟨ad2, y, e2, hb2, hy, hcy⟩ := hr2.nat_at hlt2
              injection e2 with e2
              subst e2
              by_cases he : y = x
              · subst he
                have ht2 : ((y : Int) == (y : Int)) = true := by simp
                have HB : Hid (b = 3) := by unfold Hid; rw [HS2.out, if_pos (mem_at hy)]
                clear hy
                go_wp2
                go_ret
                exact ⟨ret_i HB.out.symm, rfl⟩
              · have ht2 : ((y : Int) == (x : Int)) = false := by simp; omega
                have HA : Hid (x ∉ (l.take k).take (j + 1)) := by
                  unfold Hid; rw [take_next hy]; simp only [List.mem_append, List.mem_singleton, not_or]
                  exact ⟨hno.out, fun h => he h.symm⟩
                clear hy he
                go_wp2
                go_round
                case rel => exact ⟨j + 1, by omega, by go_num, HA⟩
                case measure => simp only [intOf]; omega
            · obtain rfl : j = k := by omega
              have HB : Hid (scanErr m (l.take (j + 1)) (l.drop (j + 1)) = b) := by
                have h2 := hno.out
                rw [List.take_of_length_le (List.length_take_le _ _)] at h2
                unfold Hid; rw [HS2.out, if_neg h2]
              go_wp2
              go_round
              case rel => exact ⟨j + 1, by omega, by go_num, HB⟩
              case measure => simp only [intOf]; omega
      · obtain rfl : k = n := by omega
        have HB : Hid (b = 0) := by
          unfold Hid; rw [← hall.out, List.drop_of_length_le (Nat.le_of_eq H.out)]; rfl
        go_wp2
        go_ret
        exact ⟨ret_i HB.out.symm, rfl⟩

set_option maxHeartbeats 400000 in
theorem BookChecks_walk (nb : Int) (A : Option Addr) (n c : Nat) (l : List Nat) (w : World) (_ : (Lit.int .i64 nb).wf = true) (h : Reads w w.heap.size A n (vn .u32 l)) (hw : ∀ x ∈ l, x < 4294967296) (_ : n * 4 ≤ reachBytes) (hc : n ≤ c) :
    Calls Try.prog 9 #[.int .i64 nb, .slice A n c] w (LawTrue w) := by
  have c1 := book_Check nb A n c l (bookErr nb l) w h hw hc rfl
  have c2 := ref_BookCheck nb A n c l (bookErr nb l) w h hw hc rfl
  generalize bookErr nb l = z at *
  go_enter Try.func9, Try.ntmps9
  go_wp2_with (first | (go_at_call 33; refine c1.mono ?_; rintro e w' ⟨rfl, rfl⟩) | (go_at_call 34; refine c2.mono ?_; rintro e w' ⟨rfl, rfl⟩))
  go_ret
  exact .same _
end Go.Proofs.Ytbkgbmnnnlpefaa

import Derived.Test.YtipnnpjinopgoaaBall
import Derived.Test.YtipnnpjinopgoaaIdx
import Derived.Test.YtipnnpjinopgoaaQuiet
set_option linter.unusedVariables false
namespace Go.Proofs.Ytipnnpjinopgoaa
open Go.RowKit

/-! ### the library's Index and Contains over words -/
def isW (l : List Nat) (v : Nat) (k : Nat) : Bool := decide (l[k]? = some v)
set_option maxHeartbeats 400000 in
theorem idx_u32 (A : Option Addr) (n c : Nat) (l : List Nat) (v : Nat) (r : Int) (w : World) {B : Nat} (h : Reads w B A n (vn .u32 l)) (hn : n ≤ maxLen) (hr : Hid (idxOf (isW l v) n = r)) :
    Calls Try.prog 26 #[.slice A n c, .int .u32 (v : Int)] w (Ret w (.int .i64 r)) := by
  unfold maxLen at hn
  go_enter Try.func26, Try.ntmps26
  go_wp2
  go_loop [8] (fun i => ∃ k : Nat, k ≤ n ∧ i = .int .i64 k ∧ Hid (∀ j, j < k → isW l v j = false)) (fun i => n - (intOf i).toNat)
  case atStart => exact ⟨0, by omega, rfl, fun j hj => absurd hj (by omega)⟩
  case round =>
    obtain ⟨k, hk, rfl, hall⟩ := hrel
    by_cases hlt : k < n
    · obtain ⟨ad, x, rfl, hb, hx, hc⟩ := h.nat_at hlt
      by_cases he : v = x
      · subst he
        have ht : ((v : Int) == (v : Int)) = true := by simp
        have HI := Lib.hid (idxOf_hit hlt (by simp [isW, hx]) hall.out)
        clear hx
        go_wp2
        go_ret
        exact ⟨ret_i (by rw [← hr.out, HI.out]), rfl⟩
      · have ht : ((v : Int) == (x : Int)) = false := by simp; omega
        have HA : Hid (∀ j, j < k + 1 → isW l v j = false) := fun j hj => by
          rcases Nat.lt_or_ge j k with h1 | h1
          · exact hall.out j h1
          · obtain rfl : j = k := by omega
            simp [isW, hx]; omega
        clear hx he
        go_wp2
        go_round
        case rel => exact ⟨k + 1, by omega, by go_num, HA⟩
        case measure => simp only [intOf]; omega
    · obtain rfl : k = n := by omega
      have HI := Lib.hid (idxOf_none hall.out)
      go_wp2
      go_ret
      exact ⟨ret_i (by rw [← hr.out, HI.out]), rfl⟩
set_option maxHeartbeats 400000 in
theorem contains_u32 (A : Option Addr) (n c : Nat) (l : List Nat) (v : Nat) (b : Bool) (w : World) {B : Nat} (h : Reads w B A n (vn .u32 l)) (hn : n ≤ maxLen) (hr : Hid (decide (v ∈ l) = b)) :
    Calls Try.prog 22 #[.slice A n c, .int .u32 (v : Int)] w (Ret w (.bool b)) := by
  have cc := idx_u32 A n c l v (idxOf (isW l v) n) w h hn rfl
  have HB : Hid (decide (0 ≤ idxOf (isW l v) n) = b) := by
    unfold Hid
    rw [← hr.out, anyTo_idx, ← h.nat_len, anyTo_list l (fun x => decide (x = v)) _ (fun k x hx => by simp [isW, hx]), Bool.eq_iff_iff]
    simp only [List.any_eq_true, decide_eq_true_eq]
    exact ⟨fun ⟨x, h1, h2⟩ => h2 ▸ h1, fun h1 => ⟨v, h1, rfl⟩⟩
  generalize idxOf (isW l v) n = z at *
  go_enter Try.func22, Try.ntmps22
  go_wp2_with (go_at_call 26; refine cc.mono ?_; rintro e w' ⟨rfl, rfl⟩)
  go_ret
  exact ⟨ret_b (by rw [← HB.out]), rfl⟩

/-! ### what is wrong with a book -/
def scanErr (m : Nat) : List Nat → List Nat → Int
  | _, [] => 0
  | seen, x :: l => if ¬ x < 2 ^ m then 4 else if x ∈ seen then 3 else scanErr m (seen ++ [x]) l
def bookErr (n : Int) (l : List Nat) : Int := if n < 0 ∨ 12 < n ∨ 64 < l.length then 1 else scanErr n.toNat [] l
theorem scan_ok {m : Nat} (l seen : List Nat) (h : scanErr m seen l = 0) : ∀ x ∈ l, x < 2 ^ m := by
  induction l generalizing seen with
  | nil => intro x hx; simp at hx
  | cons y l ih =>
    rw [scanErr] at h
    split at h
    · omega
    · split at h
      · omega
      · intro x hx
        rcases List.mem_cons.1 hx with rfl | hx
        · omega
        · exact ih _ h x hx
theorem bookErr_ok {n : Int} {l : List Nat} (h : bookErr n l = 0) : ∃ m : Nat, n = m ∧ m ≤ 12 ∧ l.length ≤ 64 ∧ ∀ x ∈ l, x < 2 ^ m := by
  unfold bookErr at h
  split at h
  · omega
  · exact ⟨n.toNat, by omega, by omega, by omega, scan_ok _ _ h⟩
theorem bookErr_big {n : Int} {l : List Nat} (h : n < 0 ∨ 12 < n ∨ 64 < l.length) : bookErr n l = 1 := by simp [bookErr, h]
theorem bookErr_in {m : Nat} {l : List Nat} (h1 : m ≤ 12) (h2 : l.length ≤ 64) : bookErr m l = scanErr m [] l := by
  unfold bookErr; rw [if_neg (by omega), Int.toNat_natCast]
theorem scan_step {m k x : Nat} {l : List Nat} (hx : l[k]? = some x) : scanErr m (l.take k) (l.drop k) = if ¬ x < 2 ^ m then 4 else if x ∈ l.take k then 3 else scanErr m (l.take (k + 1)) (l.drop (k + 1)) := by
  rw [drop_next hx, scanErr, take_next hx]

end Go.Proofs.Ytipnnpjinopgoaa

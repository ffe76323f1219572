import Derived.Test.YtpbffbhebdcpbaaPrefix
import Derived.Test.YtpbffbhebdcpbaaOwn
import Derived.Test.YtpbffbhebdcpbaaBools
set_option linter.unusedVariables false
namespace Go.Proofs.Ytpbffbhebdcpbaa
open Go.RowKit

theorem el_bools : Elem Try.prog 22 4 (.bool false) 1 := Elem.mk' Try.underlying22 (by kernel_rfl) rfl
theorem one_vbs (l : List Bool) : ∀ u ∈ vb l, u.oneCell' = true := by
  intro u hu
  obtain ⟨b, _, rfl⟩ := List.mem_map.1 hu
  rfl
def wordAt (ls : List (List Bool)) (s : Int) : List Bool := ls.getD s.toNat []
def wrL (ls : List (List Bool)) (L : List Int) : List Bool := (L.map (wordAt ls)).flatten
def badS (n : Nat) (s : Int) : Bool := decide (s < 0) || decide ((n : Int) ≤ s)
theorem wrL_next {ls : List (List Bool)} {L : List Int} {k : Nat} {s : Int} (h : L[k]? = some s) : wrL ls (L.take (k + 1)) = wrL ls (L.take k) ++ wordAt ls s := by
  unfold wrL; rw [take_next h, List.map_append, List.flatten_append]; simp
theorem wrL_len {ls : List (List Bool)} (h : ∀ l ∈ ls, l.length ≤ 8) (L : List Int) : (wrL ls L).length ≤ 8 * L.length := by
  induction L with
  | nil => simp [wrL]
  | cons s L ih =>
    have : (wordAt ls s).length ≤ 8 := by
      unfold wordAt
      rw [List.getD]
      rcases Nat.lt_or_ge s.toNat ls.length with hk | hk
      · rw [List.getElem?_eq_getElem hk]; exact h _ (List.getElem_mem hk)
      · rw [List.getElem?_eq_none hk]; simp
    unfold wrL at *
    rw [List.map_cons, List.flatten_cons, List.length_append, List.length_cons]; omega
theorem codeErr_ok {ls : List (List Bool)} (h : codeErr ls = 0) : ls.length ≤ 8 ∧ ∀ l ∈ ls, l.length ≤ 8 := by
  unfold codeErr at h
  split at h
  · omega
  · rename_i h1
    refine ⟨by omega, fun l hl => ?_⟩
    rcases Nat.lt_or_ge 8 l.length with h2 | h2
    · exact absurd (.inr (List.any_eq_true.2 ⟨l, hl, by simp [longW, h2]⟩)) h1
    · exact h2
theorem Reads2.more {w : World} {B B' : Nat} {A : Option Addr} {n : Nat} {ls : List (List Bool)} (h : Reads2 w B A n ls) (hB : B ≤ B') : Reads2 w B' A n ls := by
  obtain ⟨vs, hv, hl, he⟩ := h
  exact ⟨vs, hv.more hB, hl, fun k l hk => by obtain ⟨A', n', c', e, h2, h3⟩ := he k l hk; exact ⟨A', n', c', e, h2.more hB, h3⟩⟩
/-- returned a slice that the call made, and a code -/
def RetSEb (w : World) (E : TypeId) (xs : List Value) (z : Int) (e : Ending) (w' : World) : Prop :=
  ∃ A n c, e = .returned (.tuple #[.slice A n c, .int .i64 z]) ∧ Own w' w.heap.size E (.slice A n c) xs ∧ Below w.heap.size w w'
set_option maxHeartbeats 800000 in
theorem ref_Written (A A' : Option Addr) (n c m c' : Nat) (ls : List (List Bool)) (L : List Int) (w : World) (h : Reads2 w w.heap.size A n ls) (h' : Reads w w.heap.size A' m (vi .i64 L)) (hz : Hid (codeErr ls = 0)) (hm : m ≤ 1000000)
    (hok : Hid (∀ s ∈ L, 0 ≤ s ∧ s < (n : Int))) :
    Calls Try.prog 15 #[.slice A n c, .slice A' m c'] w (RetS w 4 (vb (wrL ls L))) := by
  have H := Lib.hid h.length
  have H' := Lib.hid h'.int_len
  obtain ⟨h8, h88⟩ := codeErr_ok hz.out
  have hn8 : n ≤ 8 := by rw [← H.out]; exact h8
  have HW := Lib.hid (wrL_len h88)
  have HW8 := Lib.hid h88
  clear h8 h88
  go_enter Try.func15, Try.ntmps15
  go_wp2
  go_loopw [5, 10] (fun v i wr => ∃ k : Nat, k ≤ m ∧ i = .int .i64 k ∧ Own wr w.heap.size 4 v (vb (wrL ls (L.take k))) ∧ Below w.heap.size w wr) (fun _ i _ => m - (intOf i).toNat)
  case atStart => exact ⟨0, by omega, rfl, Own.nil _ _ _, Below.refl _ _⟩
  case round =>
    obtain ⟨k, hk, rfl, hown, hb⟩ := hrel
    have hwl := HW.out (L.take k)
    rw [List.length_take] at hwl
    have hl : (vb (wrL ls (L.take k))).length ≤ 8000000 := by rw [List.length_map]; omega
    by_cases hlt : k < m
    · obtain ⟨ad, s, e, hbb, hx, hcx⟩ := (h'.below hb).int_at hlt
      subst e
      obtain ⟨hs0, hs1⟩ := hok.out s (mem_at hx)
      obtain ⟨t, rfl⟩ := Int.eq_ofNat_of_zero_le hs0
      have HN := Lib.hid (wrL_next (ls := ls) hx)
      obtain ⟨ad2, q, A2, n2, c2, e, hq, hcq, hrq, _, hql⟩ := (h.below hb).row (k := t) (by omega)
      subst e
      have hq8 := HW8.out q (mem_at hq)
      have HQ : Hid (wordAt ls (t : Int) = q) := by unfold Hid wordAt; rw [Int.toNat_natCast, List.getD, hq]; rfl
      rw [HQ.out] at HN
      have hn2 : n2 ≤ 8 := by omega
      have hB := hb.size
      have HRQ := Lib.hid hrq
      clear hx hq hwl hrq hql
      go_wp2_with (at_builtin; refine appN el_bools rfl _ _ rfl rfl hown rfl HRQ.out (one_vbs q) (by unfold maxLen; omega) (by omega) hB ?_; intro v2 w2 ho2 hb2 _ _)
      go_roundw
      case rel => exact ⟨k + 1, by omega, by go_num, by rw [HN.out]; simpa [vb] using ho2, hb.trans hb2⟩
      case measure => simp only [intOf]; omega
    · obtain rfl : k = m := by omega
      rw [List.take_of_length_le (Nat.le_of_eq H'.out)] at hown
      clear hl hwl
      obtain ⟨A2, c2, e⟩ := hown.form
      generalize hn2 : (vb (wrL ls L)).length = n2 at e
      subst e
      clear hn2
      go_wp2
      go_ret
      exact ⟨A2, n2, c2, rfl, hown, hb⟩

end Go.Proofs.Ytpbffbhebdcpbaa

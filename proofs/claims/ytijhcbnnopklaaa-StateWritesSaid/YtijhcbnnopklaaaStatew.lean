import Derived.Test.YtijhcbnnopklaaaStatet
set_option linter.unusedVariables false
namespace Go.Proofs.Ytijhcbnnopklaaa
open Go.RowKit

def putR (l : List Int) (x s : Int) : Int × Int :=
  if s < 0 ∨ (l.length : Int) ≤ s then (0, 2) else match l[s.toNat]? with
    | none => (0, 2)
    | some k => if k = 0 then (0, 2) else putRes (putY l x s.toNat k)
theorem putR_out {l : List Int} {x s : Int} (h : s < 0 ∨ (l.length : Int) ≤ s) : putR l x s = (0, 2) := by unfold putR; rw [if_pos h]
theorem putR_at {l : List Int} {x k : Int} {t : Nat} (h : l[t]? = some k) : putR l x t = if k = 0 then (0, 2) else putRes (putY l x t k) := by
  have := (List.getElem?_eq_some_iff.1 h).1
  unfold putR; rw [if_neg (by omega), Int.toNat_natCast, h]
theorem putY_nn {l : List Int} {x k : Int} {t : Nat} (hz : partsErr l x = 0) (hk : l[t]? = some k) (hk0 : k ≠ 0) : 0 ≤ putY l x t k := by
  obtain ⟨h8, hall, hT1, hT16, hx0, hx1⟩ := partsErr_ok hz
  have hin := List.all_eq_true.1 hall k (mem_at hk)
  simp only [inPart, Bool.and_eq_true, decide_eq_true_eq] at hin
  have hP := sumI_bd (l.take t) (by rw [List.all_eq_true]; intro y hy; exact List.all_eq_true.1 hall y (List.mem_of_mem_take hy))
  have := quo_bd (T := sumI l) hx0 hx1 (show 1 ≤ k by omega) (by omega) hT16
  unfold putY; omega
theorem putR_ok {l : List Int} {x s : Int} (hz : partsErr l x = 0) (h : (putR l x s).2 = 0) : partsErr l (putR l x s).1 = 0 := by
  by_cases hs : s < 0 ∨ (l.length : Int) ≤ s
  · rw [putR_out hs] at h; simp at h
  · obtain ⟨t, rfl⟩ := Int.eq_ofNat_of_zero_le (show 0 ≤ s by omega)
    have hx : l[t]? = some (l[t]'(by omega)) := List.getElem?_eq_getElem (by omega)
    generalize l[t]'(by omega) = k at hx
    rw [putR_at hx] at h ⊢
    by_cases hk : k = 0
    · rw [if_pos hk] at h; simp at h
    · rw [if_neg hk] at h ⊢
      have hy := putY_nn hz hx hk
      unfold putRes at h ⊢
      split at h
      · simp at h
      · rename_i hb
        rw [if_neg hb]
        obtain ⟨h8, hall, hT1, hT16, hx0, hx1⟩ := partsErr_ok hz
        unfold partsErr
        rw [if_neg (by omega), if_pos hall, if_neg (by simp only; omega)]
def wrF (l : List Int) : List Int → Int → Int × Int
  | [], x => (x, 0)
  | s :: t, x => if (putR l x s).2 = 0 then wrF l t (putR l x s).1 else (0, (putR l x s).2)
theorem rev_next {L : List Int} {r : Nat} {s : Int} (h : L[r]? = some s) : (L.take (r + 1)).reverse = s :: (L.take r).reverse := by
  rw [take_next h, List.reverse_append]; rfl

theorem state_Put_all (A : Option Addr) (n c : Nat) (l : List Int) (x s a b : Int) (w : World) (h : Reads w w.heap.size A n (vi .i64 l)) (hc : n ≤ c) (hz : Hid (partsErr l x = 0)) (hr : Hid (putR l x s = (a, b))) :
    Calls Try.prog 20 #[.slice A n c, .int .i64 x, .int .i64 s] w (RetQ w (.tuple #[.int .i64 a, .int .i64 b])) := by
  have H := h.int_len
  by_cases hs : s < 0 ∨ (n : Int) ≤ s
  · have e := hr.out
    rw [putR_out (by rw [H]; exact hs)] at e
    injection e with e1 e2
    subst e1; subst e2
    exact (state_Put_out A n c l x s w h hz hs).mono fun e w' h => ⟨h.1, 0, h.2.symm⟩
  · obtain ⟨t, rfl⟩ := Int.eq_ofNat_of_zero_le (show 0 ≤ s by omega)
    have hx : l[t]? = some (l[t]'(by omega)) := List.getElem?_eq_getElem (by omega)
    generalize l[t]'(by omega) = k at hx
    have e := hr.out
    rw [putR_at hx] at e
    by_cases hk : k = 0
    · rw [if_pos hk] at e
      injection e with e1 e2
      subst e1; subst e2; subst hk
      exact (state_Put_zero A n c l x t w h hz hx).mono fun e w' h => ⟨h.1, 0, h.2.symm⟩
    · rw [if_neg hk] at e
      exact state_Put A n c l x t k a b w h hc hz hx hk e

set_option maxHeartbeats 600000 in
theorem state_Write (A A' : Option Addr) (n c m c' : Nat) (l L : List Int) (a b : Int) (w : World) (h : Reads w w.heap.size A n (vi .i64 l)) (h' : Reads w w.heap.size A' m (vi .i64 L)) (hc : n ≤ c) (hz : Hid (partsErr l 0 = 0)) (hm : m ≤ 64) (hr : Hid (wrF l L.reverse 0 = (a, b))) :
    Calls Try.prog 28 #[.slice A n c, .slice A' m c'] w (RetQ w (.tuple #[.int .i64 a, .int .i64 b])) := by
  have H := Lib.hid h.int_len
  have H' := Lib.hid h'.int_len
  have c1 := state_wrong A n c l 0 0 w h hz
  go_enter Try.func28, Try.ntmps28
  go_wp2_with (go_at_call 45; refine c1.mono ?_; clear c1; rintro e w' ⟨rfl, rfl⟩)
  go_loopw [7, 8] (fun xv i wr => ∃ (r : Nat) (y : Int), r ≤ m ∧ i = .int .i64 ((r : Int) - 1) ∧ xv = .int .i64 y ∧ Hid (partsErr l y = 0) ∧ Hid (wrF l (L.take r).reverse y = (a, b)) ∧ Qt w wr) (fun _ i _ => ((intOf i) + 1).toNat)
  case atStart => exact ⟨m, 0, Nat.le_refl _, by go_num, rfl, hz, by unfold Hid; rw [List.take_of_length_le (Nat.le_of_eq H'.out)]; exact hr.out, Qt.refl _⟩
  case round =>
    obtain ⟨r, y, hrm, rfl, rfl, hy, hw, hq⟩ := hrel
    match r with
    | 0 =>
      have e : (y, (0 : Int)) = (a, b) := by have := hw.out; simpa [wrF] using this
      have HE := Lib.hid e
      clear e
      go_wp2
      go_ret2
      exact ⟨ret_ii (by rw [HE.out]), hq⟩
    | r + 1 =>
      obtain ⟨ad, s, e, hb, hx, hcx⟩ := (h'.qt hq).int_at (k := r) (by omega)
      subst e
      have hw2 := hw.out
      rw [rev_next hx, wrF] at hw2
      obtain ⟨v, hv⟩ : ∃ v, putR l y s = v := ⟨_, rfl⟩
      obtain ⟨y2, e2⟩ := v
      have cp := fun w' (hq' : Qt w w') => state_Put_all A n c l y s y2 e2 w' (by have := h.qt hq'; rwa [hq'.size]) hc hy hv
      rw [hv] at hw2
      have hok := putR_ok (s := s) hy.out
      rw [hv] at hok
      simp only at hw2 hok
      have er : ((r + 1 : Nat) : Int) - 1 = (r : Int) := by omega
      rw [er]
      have i1 : (0 : Int) ≤ (r : Int) := Int.natCast_nonneg r
      have i2 : (r : Int) < (m : Int) := by omega
      by_cases he : e2 = 0
      · have HW : Hid (wrF l (L.take r).reverse y2 = (a, b)) := by rw [if_pos he] at hw2; exact hw2
        have HY : Hid (partsErr l y2 = 0) := hok he
        have hz2 : (e2 != 0) = false := by simpa using he
        clear hw2 hok hv hx er he
        go_wp2_with (go_at_call 20; refine (cp _ hq).mono ?_; rintro e w' ⟨rfl, m1, rfl⟩)
        go_roundw
        case rel => exact ⟨r, y2, by omega, by go_num, rfl, HY, HW, hq.drewN _⟩
        case measure => simp only [intOf]; omega
      · have HW : Hid ((0, e2) = (a, b)) := by rw [if_neg he] at hw2; exact hw2
        have hz2 : (e2 != 0) = true := by simpa using he
        clear hw2 hok hv hx er he
        go_wp2_with (go_at_call 20; refine (cp _ hq).mono ?_; rintro e w' ⟨rfl, m1, rfl⟩)
        go_ret2
        exact ⟨ret_ii (by rw [HW.out]), (hq.drewN _)⟩
end Go.Proofs.Ytijhcbnnopklaaa

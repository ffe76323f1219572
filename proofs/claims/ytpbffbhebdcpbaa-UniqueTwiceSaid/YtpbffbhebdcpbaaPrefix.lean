import Derived.Test.YtpbffbhebdcpbaaProg
import Derived.Test.YtpbffbhebdcpbaaFrame
import Derived.Test.YtpbffbhebdcpbaaPrefixIdx
set_option linter.unusedVariables false
namespace Go.Proofs.Ytpbffbhebdcpbaa
open Go.RowKit

set_option maxHeartbeats 400000 in
theorem check_1 (A : Option Addr) (n c : Nat) (w : World) :
    Calls Try.prog 41 #[.slice A n c] w (Ret w (.bool (decide ((8 : Int) < n)))) := by
  go_enter Try.func41, Try.ntmps41
  go_wp2
  go_ret
  exact ⟨rfl, rfl⟩

def longW (l : List Bool) : Bool := decide (8 < l.length)
def codeErr (ls : List (List Bool)) : Int := if 8 < ls.length ∨ ls.any longW = true then 1 else 0

set_option maxHeartbeats 400000 in
theorem prefix_Check (A : Option Addr) (n c : Nat) (ls : List (List Bool)) (b : Int) (w : World) (h : Reads2 w w.heap.size A n ls) (hn : n ≤ maxLen) (hr : Hid (codeErr ls = b)) :
    Calls Try.prog 26 #[.slice A n c] w (RetQ w (.int .i64 b)) := by
  obtain ⟨vs, hv, hl, he⟩ := h
  have hlen : ls.length = n := by rw [← hl]; exact hv.len
  by_cases h8 : 8 < n
  · have E : Hid (codeErr ls = 1) := by simp [Hid, codeErr, hlen, h8]
    clear hlen hl he
    go_enter Try.func26, Try.ntmps26
    go_wp2
    go_ret
    exact ⟨ret_i (by rw [← hr.out, E.out]), 0, rfl⟩
  · have hp : ∀ k u m, vs[k]? = some u → Calls Try.prog 41 #[u] (w.drewN m) (RetQ (w.drewN m) (.bool (longW (ls.getD k [])))) := by
      intro k u m hu
      have hk : k < ls.length := by rw [← hl]; exact (List.getElem?_eq_some_iff.1 hu).1
      obtain ⟨A', n', c', e, h2, _⟩ := he k _ (List.getElem?_eq_getElem hk)
      rw [hu] at e
      injection e with e
      subst e
      refine (check_1 A' n' c' (w.drewN m)).mono fun e w' ⟨h1, h2'⟩ => ⟨?_, 0, by rw [← h2']; rfl⟩
      rw [h1]
      refine ret_b ?_
      have : (ls.getD k []).length = n' := by simp only [List.getD, List.getElem?_eq_getElem hk, Option.getD_some]; exact h2.bool_len
      unfold longW; rw [this]; congr 1; apply propext; omega
    have ha : anyTo (fun k => longW (ls.getD k [])) n = ls.any longW := by
      rw [← hlen]; exact anyTo_list ls longW _ fun k x hx => by simp [List.getD, hx]
    have cc := contains_check A n c vs (fun k => longW (ls.getD k [])) (ls.any longW) w hv hn hp ha
    have E : Hid (codeErr ls = if ls.any longW = true then 1 else 0) := by simp [Hid, codeErr, hlen, h8]
    clear hlen hl he hp ha
    generalize ls.any longW = q at *
    cases q
    · go_enter Try.func26, Try.ntmps26
      go_wp2_with (go_at_call 40; refine cc.mono ?_; rintro e w' ⟨rfl, m2, rfl⟩)
      go_ret
      exact ⟨ret_i (by rw [← hr.out, E.out]; rfl), m2, rfl⟩
    · go_enter Try.func26, Try.ntmps26
      go_wp2_with (go_at_call 40; refine cc.mono ?_; rintro e w' ⟨rfl, m2, rfl⟩)
      go_ret
      exact ⟨ret_i (by rw [← hr.out, E.out]; rfl), m2, rfl⟩

theorem Reads2.row {w : World} {B : Nat} {A : Option Addr} {n : Nat} {ls : List (List Bool)} (h : Reads2 w B A n ls) {k : Nat} (hk : k < n) :
    ∃ ad l A' n' c', A = some ad ∧ ls[k]? = some l ∧ w.cell? (ad.add k) = some (.slice A' n' c') ∧ Reads w B A' n' (vb l) ∧ n' ≤ maxLen ∧ l.length = n' := by
  obtain ⟨vs, hv, hl, he⟩ := h
  obtain ⟨ad, u, rfl, hb, hx, hc⟩ := hv.at_ hk
  have hk' : k < ls.length := by rw [← hl, hv.len]; exact hk
  obtain ⟨A', n', c', e, h2, h3⟩ := he k _ (List.getElem?_eq_getElem hk')
  rw [hx] at e
  injection e with e
  subst e
  exact ⟨ad, ls[k], A', n', c', rfl, List.getElem?_eq_getElem hk', hc, h2, h3, h2.bool_len⟩
theorem Reads2.length {w : World} {B : Nat} {A : Option Addr} {n : Nat} {ls : List (List Bool)} (h : Reads2 w B A n ls) : ls.length = n := by
  obtain ⟨vs, hv, hl, he⟩ := h
  rw [← hl]; exact hv.len
theorem Reads2.drewN {w : World} {B : Nat} {A : Option Addr} {n : Nat} {ls : List (List Bool)} (h : Reads2 w B A n ls) (m : Nat) : Reads2 (w.drewN m) B A n ls := by
  obtain ⟨vs, hv, hl, he⟩ := h
  exact ⟨vs, hv.drewN m, hl, fun k l hk => by obtain ⟨A', n', c', e, h2, h3⟩ := he k l hk; exact ⟨A', n', c', e, h2.drewN m, h3⟩⟩
theorem Reads2.below {w w' : World} {B : Nat} {A : Option Addr} {n : Nat} {ls : List (List Bool)} (h : Reads2 w B A n ls) (hb : Below B w w') : Reads2 w' B A n ls := by
  obtain ⟨vs, hv, hl, he⟩ := h
  exact ⟨vs, hv.below hb, hl, fun k l hk => by obtain ⟨A', n', c', e, h2, h3⟩ := he k l hk; exact ⟨A', n', c', e, h2.below hb, h3⟩⟩

set_option maxHeartbeats 400000 in
theorem ref_CodeCheck (A : Option Addr) (n c : Nat) (ls : List (List Bool)) (b : Int) (w : World) (h : Reads2 w w.heap.size A n ls) (hn : n ≤ maxLen) (hr : Hid (codeErr ls = b)) :
    Calls Try.prog 11 #[.slice A n c] w (Ret w (.int .i64 b)) := by
  have H := Lib.hid h.length
  by_cases h8 : 8 < n
  · have E : Hid (codeErr ls = 1) := by simp [Hid, codeErr, H.out, h8]
    go_enter Try.func11, Try.ntmps11
    go_wp2
    go_ret
    exact ⟨ret_i (by rw [← hr.out, E.out]), rfl⟩
  · go_enter Try.func11, Try.ntmps11
    go_wp2
    go_loop [10] (fun i => ∃ k : Nat, k ≤ n ∧ i = .int .i64 k ∧ Hid ((ls.take k).any longW = false)) (fun i => n - (intOf i).toNat)
    case atStart => exact ⟨0, by omega, rfl, by simp [Hid]⟩
    case round =>
      obtain ⟨k, hk, rfl, hall⟩ := hrel
      by_cases hlt : k < n
      · obtain ⟨ad, l, A', n', c', rfl, hx, hc, h2, h3, h4⟩ := h.row hlt
        have HX := Lib.hid hx
        have H4 := Lib.hid h4
        clear hx h4
        by_cases hbig : 8 < n'
        · have E : Hid (codeErr ls = 1) := by
            unfold Hid codeErr
            rw [if_pos (.inr (List.any_eq_true.2 ⟨l, mem_at HX.out, by simp [longW, H4.out, hbig]⟩))]
          go_wp2
          go_ret
          exact ⟨ret_i (by rw [← hr.out, E.out]), rfl⟩
        · go_wp2
          go_round
          case rel => exact ⟨k + 1, by omega, by go_num, by unfold Hid; rw [take_next HX.out, List.any_append, hall.out]; simp [longW, H4.out]; omega⟩
          case measure => simp [intOf]; omega
      · obtain rfl : k = n := by omega
        have E : Hid (codeErr ls = 0) := by
          have := hall.out
          rw [List.take_of_length_le (Nat.le_of_eq H.out)] at this
          simp [Hid, codeErr, H.out, h8, this]
        go_wp2
        go_ret
        exact ⟨ret_i (by rw [← hr.out, E.out]), rfl⟩

end Go.Proofs.Ytpbffbhebdcpbaa

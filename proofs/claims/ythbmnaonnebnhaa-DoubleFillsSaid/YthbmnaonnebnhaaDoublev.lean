/-
  double.Fill's callees, each in one form.
-/
import Derived.Test.YthbmnaonnebnhaaDoublex
import Derived.Test.YthbmnaonnebnhaaDoublew
import Derived.Test.YthbmnaonnebnhaaDel
set_option linter.unusedVariables false
namespace Go.Proofs.Ythbmnaonnebnhaa
open Go.RowKit

theorem double_fill (n c2 m g N cap base p q : Nat) (A2 : Option Addr) (gone : List Nat) (hasP : Bool) (l : List Nat) (w : World) {B : Nat} (ho : Own w base 3 (.slice (some ⟨g, 0, none⟩) N cap) (vn .i64 l)) (hr : Reads w B A2 m (vn .i64 gone)) (hlt : ∀ i ∈ gone, i < n) (hnd : gone.Nodup) (hlen : gone.length ≤ 2) (hnN : n ≤ N) (hn12 : n ≤ 12) (hN : N ≤ 1000) (hp : p < 16) (hq : q < 16) (hl : l.length = N) :
    Calls Try.prog 54 #[.slice (some ⟨g, 0, none⟩) n n, .slice A2 m c2, .int .i64 (p : Int), .int .i64 (q : Int), .bool hasP] w
      (RowTo w base g N cap 3 (setG l gone (solG l gone p q hasP).1 (solG l gone p q hasP).2)) := by
  have hm := hr.nat_len
  match gone, hr, hlt, hnd, hlen, hm with
  | [], hr, _, _, _, hm => exact double_fill0 n c2 m g N cap base p q A2 hasP l w ho (by simpa using hm.symm)
  | [i], hr, hlt, _, _, hm =>
    obtain rfl : m = 1 := by simpa using hm.symm
    obtain ⟨ad, rfl⟩ := hr.addr (by omega)
    exact double_fill1 n c2 1 g N cap base p q i ad hasP l w ho hr (hlt i (by simp)) hnN hN hp hq hl
  | [i, j], hr, hlt, hnd, _, hm =>
    obtain rfl : m = 2 := by simpa using hm.symm
    obtain ⟨ad, rfl⟩ := hr.addr (by omega)
    exact double_fill2 n c2 2 g N cap base p q i j ad hasP l w ho hr (hlt i (by simp)) (hlt j (by simp)) (by simpa using hnd) hnN hn12 hN hp hq hl
theorem grown_fromDrew {w w' : World} {row : Option Nat} (h : w.drew.grownBy w' row) : w.grownBy w' row := ⟨h.os, h.tape, h.output, h.size, h.block⟩
theorem setG_len (l gone : List Nat) (a b : Nat) : (setG l gone a b).length = l.length := by
  match gone with
  | [] => rfl
  | [i] => simp [setG]
  | i :: j :: _ => simp [setG]
theorem set_16 {l : List Nat} {i a : Nat} (hl : ∀ x ∈ l, x < 16) (ha : a < 16) : ∀ x ∈ l.set i a, x < 16 := by
  intro x hx
  rcases List.mem_or_eq_of_mem_set hx with h | h
  · exact hl x h
  · rw [h]; exact ha
theorem setG_16 {l gone : List Nat} {a b : Nat} (hl : ∀ x ∈ l, x < 16) (ha : a < 16) (hb : b < 16) : ∀ x ∈ setG l gone a b, x < 16 := by
  match gone with
  | [] => exact hl
  | [i] => exact set_16 hl ha
  | i :: j :: _ => exact set_16 (set_16 hl ha) hb
theorem dbl_inside (A : Option Addr) (m c base n B : Nat) (lost : List Bool) (w : World) (ho : Own w base 3 (.slice A m c) (vn .i64 (goneL lost (n + 2)))) (hm : n ≤ 900) (hbox : w.cell? ⟨B, 0, none⟩ = some (.int .i64 (n : Int))) (hB : B < base) (hbase : base ≤ w.heap.size) :
    Calls Try.prog 52 #[.slice A m c, .func (.func 53) #[] #[.pointer (some ⟨B, 0, none⟩)]] w fun e w' =>
      ∃ A' m' c', e = .returned (.slice A' m' c') ∧ Reads w' w'.heap.size A' m' (vn .i64 (goneL lost n)) ∧ Below base w w' := by
  have hl := ho.reads.nat_len
  have hm2 : m ≤ 1000 := by rw [← hl]; unfold goneL; have := filt_len (lsB lost) (n + 2); omega
  have hsp := goneL_split lost n
  rcases Nat.lt_or_ge (goneL lost n).length m with h1 | h1
  · obtain ⟨ad, rfl⟩ := ho.reads.addr (by omega)
    obtain ⟨g, rfl, hg, _⟩ := ho.addr
    refine (dbl_delete g m c base n B (goneL lost n).length (goneL lost (n + 2)) w ho hm2 hbox (by omega) h1 (fun k x hx hk => ?_) (fun k x hx hk => ?_)).mono fun e w' ⟨c', he, hr, hgr⟩ => ?_
    · rw [hsp, List.getElem?_append_left hk] at hx
      exact (goneL_lt x (mem_at hx)).1
    · rw [hsp, List.getElem?_append_right hk] at hx
      have := mem_at hx
      rcases List.mem_append.1 this with h | h
      · split at h
        · rw [List.mem_singleton.1 h]; omega
        · cases h
      · split at h
        · rw [List.mem_singleton.1 h]; omega
        · cases h
    · rw [← goneL_take] at hr
      exact ⟨_, _, c', he, hr, grown_below hgr hbase (fun j hj => by injection hj with hj; omega)⟩
  · have hlen := congrArg List.length hsp
    rw [List.length_append, hl] at hlen
    have e : goneL lost (n + 2) = goneL lost n := by
      have : ((if lsB lost n then [n] else []) ++ (if lsB lost (n + 1) then [n + 1] else [])) = [] := List.eq_nil_of_length_eq_zero (by omega)
      rw [hsp, this, List.append_nil]
    rw [e] at ho
    refine (dbl_delete_all A m c n B (goneL lost n) w ho.reads hm2 hbox (fun x hx => (goneL_lt x hx).1)).mono fun e w' ⟨he, q, hw⟩ => ?_
    subst hw
    exact ⟨A, m, c, he, (ho.drewN q).reads, below_drewN (Below.refl _ _) q⟩
end Go.Proofs.Ythbmnaonnebnhaa

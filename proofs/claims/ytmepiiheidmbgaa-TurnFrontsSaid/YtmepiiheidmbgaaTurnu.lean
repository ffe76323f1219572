import Derived.Test.YtmepiiheidmbgaaTurn
set_option linter.unusedVariables false
namespace Go.Proofs.Ytmepiiheidmbgaa
open Go.RowKit

def okU (x : Int) : Bool := decide (0 ≤ x) && decide (x ≤ 255)
abbrev PostU (w : World) (base : Nat) : Option (List Nat) → Ending → World → Prop
  | none => fun e w' => Below base w w' ∧ e = .returned (.tuple #[.slice none 0 0, .int .i64 4])
  | some l => fun e w' => Below base w w' ∧ ∃ A' n' c', e = .returned (.tuple #[.slice A' n' c', .int .i64 0]) ∧ Own w' base 5 (.slice A' n' c') (vn .u8 l)
def unR (l : List Int) : Option (List Nat) := if l.all okU then some (unM (l.map Int.toNat)) else none
theorem un_step {out : List Nat} (h : ∀ x ∈ out, x < 256) {m : Nat} (hm : m < 256) : ∃ y, (stM out)[m]? = some y ∧ y < 256 ∧ unS out m = out ++ [y] ∧ stM (out ++ [y]) = frontL (stM out) m ∧ ∀ x ∈ out ++ [y], x < 256 := by
  have hi := stM_inv h
  have hlt : m < (stM out).length := by rw [hi.len]; exact hm
  have hy : (stM out)[m]? = some (stM out)[m] := List.getElem?_eq_getElem hlt
  have hy2 := hi.lt (List.getElem_mem hlt)
  refine ⟨_, hy, hy2, ?_, ?_, ?_⟩
  · unfold unS; rw [List.getD_eq_getElem?_getD, hy]; rfl
  · rw [stM_snoc, frontL_mtf hi.nodup hy]
  · intro x hx
    rcases List.mem_append.1 hx with h1 | h1
    · exact h x h1
    · rw [List.mem_singleton.1 h1]; exact hy2
theorem unM_snoc (l : List Nat) (m : Nat) : unM (l ++ [m]) = unS (unM l) m := by unfold unM; rw [List.foldl_append]; rfl
theorem unM_len (l : List Nat) : (unM l).length = l.length := by
  suffices h : ∀ (n : Nat) (l : List Nat), l.length = n → (unM l).length = n from h _ l rfl
  intro n
  induction n with
  | zero => intro l h; rw [List.eq_nil_of_length_eq_zero h]; rfl
  | succ n ih =>
    intro l h
    have el : l ≠ [] := by intro e; rw [e] at h; simp at h
    rw [← List.dropLast_concat_getLast el, unM_snoc, unS, List.length_append, ih _ (by simp [h])]; rfl
theorem okU_nat {x : Int} (h : okU x = true) : ∃ m : Nat, x = (m : Int) ∧ m < 256 := by
  unfold okU at h
  simp at h
  exact ⟨x.toNat, by omega, by omega⟩
theorem unR_bad {l : List Int} {k : Nat} {x : Int} (hx : l[k]? = some x) (hb : okU x = false) : unR l = none := by
  unfold unR
  rw [if_neg]
  intro h
  rw [List.all_eq_true.1 h x (mem_at hx)] at hb
  cases hb

set_option maxHeartbeats 800000 in
theorem turn_Unfront (A : Option Addr) (n c : Nat) (l : List Int) (R : Option (List Nat)) (w : World) (h : Reads w w.heap.size A n (vi .i64 l)) (hn : n ≤ 64) (hR : Hid (unR l = R)) :
    Calls Try.prog 29 #[.slice A n c] w (PostU w w.heap.size R) := by
  have H := Lib.hid h.int_len
  have cl := turn_list w
  go_enter Try.func29, Try.ntmps29
  go_wp2_with (go_at_call 61; refine cl.mono ?_; clear cl; rintro e w1 ⟨A1, N, c1, rfl, ho1, hb1⟩)
  have hN : N = 256 := by have := ho1.reads.nat_len; simpa using this.symm
  obtain ⟨ad1, rfl, _⟩ := ho1.reads.cells (by omega)
  obtain ⟨g, rfl, hg1, hg2⟩ := ho1.addr
  have hN2 : 2 ≤ N := by omega
  have hN3 : N ≤ 1000 := by omega
  have HN := Lib.hid hN
  clear hN
  go_loopw [5, 14] (fun v i wr => ∃ (k : Nat) (out : List Nat), k ≤ n ∧ i = .int .i64 k ∧ Own wr w.heap.size 5 v (vn .u8 out) ∧ Own wr w.heap.size 5 (.slice (some ⟨g, 0, none⟩) N c1) (vn .u8 (stM out)) ∧ v.ownBlock ≠ some g ∧ Below w.heap.size w wr ∧ Hid ((l.take k).all okU = true ∧ out = unM ((l.take k).map Int.toNat) ∧ (∀ x ∈ out, x < 256)) ∧ out.length = k) (fun _ i _ => n - (intOf i).toNat)
  case atStart => exact ⟨0, [], by omega, rfl, Own.nil _ _ _, (by unfold stM; rw [List.foldl_nil]; exact ho1), (by simp [Value.ownBlock]), hb1, (by unfold Hid; simp [unM]), rfl⟩
  case round =>
    obtain ⟨k, out, hk, rfl, hown, hlist, hne, hbel, hst, hlen⟩ := hrel
    by_cases hlt : k < n
    · obtain ⟨ad, x, rfl, hb, hx, hc0⟩ := h.int_at hlt
      have hc : wr.cell? (ad.add k) = some (.int .i64 x) := (hbel.cell (by rw [block_of_add]; exact hb)).trans hc0
      cases hok : okU x with
      | false =>
        have HRN : Hid (R = none) := by unfold Hid; rw [← hR.out]; exact unR_bad hx hok
        clear hx hc0
        have hor : x < 0 ∨ 255 < x := by unfold okU at hok; simp at hok; omega
        clear hok
        by_cases hx0 : x < 0
        · go_wp2
          go_ret2
          rw [HRN.out]
          exact ⟨hbel, rfl⟩
        · have hx1 : 255 < x := by omega
          go_wp2
          go_ret2
          rw [HRN.out]
          exact ⟨hbel, rfl⟩
      | true =>
        obtain ⟨m, rfl, hm⟩ := okU_nat hok
        obtain ⟨y, hy, hy2, hS, hF, hall⟩ := un_step hst.out.2.2 hm
        have HNX : Hid ((l.take (k + 1)).all okU = true ∧ out ++ [y] = unM ((l.take (k + 1)).map Int.toNat) ∧ (∀ x ∈ out ++ [y], x < 256)) := by
          refine ⟨?_, ?_, hall⟩
          · rw [take_next hx, List.all_append, hst.out.1]; simp [hok]
          · rw [take_next hx, List.map_append, List.map_cons, List.map_nil, unM_snoc, ← hst.out.2.1, ← hS]; rfl
        have cf := turn_front ⟨g, 0, none⟩ N c1 m (stM out) wr hlist (by have := HN.out; omega) hN2 hN3 hbel.size
        rw [← hF] at cf
        have hcy : Hid ((vn .u8 (stM (out ++ [y])))[0]? = some (.int .u8 (y : Int))) := by
          unfold Hid; rw [hF]; unfold frontL vn; rw [List.getD_eq_getElem?_getD, hy]; rfl
        have i1 : ¬ (m : Int) < 0 := by omega
        have i2 : ¬ (255 : Int) < (m : Int) := by omega
        have i3 : (0 : Int) < (N : Int) := by omega
        have hnew : Hid (vn .u8 out ++ [Value.int .u8 (y : Int)] = vn .u8 (out ++ [y])) := by unfold Hid vn; rw [List.map_append]; rfl
        have hvl : (vn .u8 out).length = k := by rw [List.length_map]; exact hlen
        have HVL := Lib.hid hvl
        have HLEN := Lib.hid hlen
        clear hst hx hc0 hok hy hS hF hall hvl hlen
        go_wp2_with (first
          | (go_at_call 62; go_loud (refine cf.mono ?_; clear cf; rintro e w2 ⟨rfl, ho2, hg2'⟩; have hown2 := hown.kept hg2' (.inr hne); have hbel2 := hbel.trans (grown_below hg2' hbel.size (fun q e => by cases e; exact hg1)); have hcell : w2.cell? ⟨g, 0, none⟩ = some (.int .u8 (y : Int)) := ho2.cell hcy.out; have hsz2 := hg2'.size))
          | (at_builtin; go_loud (refine app1 el_u8T rfl _ _ rfl rfl hown2 _ _ rfl rfl (by rw [HVL.out]; unfold maxLen; omega) (by rw [HVL.out]; omega) hbel2.size ?_; intro v3 w3 ho3 hb3 hg3 hat3)))
        rw [hnew.out] at ho3
        have hlist3 := ho2.kept hg3 (.inr (fun e => hne e.symm))
        go_roundw
        case rel =>
          refine ⟨k + 1, out ++ [y], by omega, by go_num, ho3, hlist3, ?_, hbel2.trans hb3, HNX, by simp [HLEN.out]⟩
          rcases hat3 with h7 | h7
          · rw [h7]; exact hne
          · rw [h7]; intro e; injection e with e; have := (Own.lt hlist g rfl).2; omega
        case measure => simp [intOf]; omega
    · obtain rfl : k = n := by omega
      have ht := List.take_of_length_le (Nat.le_of_eq H.out)
      have HRS : Hid (R = some out) := by
        have h1 := hst.out
        rw [ht] at h1
        unfold Hid; rw [← hR.out]; unfold unR; rw [if_pos h1.1, ← h1.2.1]
      obtain ⟨A2, c2, e⟩ := hown.form
      rw [List.length_map, hlen] at e
      subst e
      clear ht hst
      go_wp2
      go_ret2
      rw [HRS.out]
      exact ⟨hbel, A2, k, c2, rfl, hown⟩
theorem turn_Unfront_big (A : Option Addr) (n c : Nat) (w : World) (hn : 64 < n) :
    Calls Try.prog 29 #[.slice A n c] w (Ret w (.tuple #[.slice none 0 0, .int .i64 1])) := by
  go_enter Try.func29, Try.ntmps29
  go_wp2
  go_ret2
  exact ⟨rfl, rfl⟩
end Go.Proofs.Ytmepiiheidmbgaa

import Derived.Test.YtijhcbnnopklaaaOwn
import Derived.Test.YtijhcbnnopklaaaBools
import Derived.Test.YtijhcbnnopklaaaConcatBools
import Derived.Test.YtijhcbnnopklaaaOnes
import Derived.Test.YtijhcbnnopklaaaStore
set_option linter.unusedVariables false
namespace Go.Proofs.Ytijhcbnnopklaaa
open Go.RowKit

set_option maxHeartbeats 400000 in
theorem trellis_out (s0 s1 b x y : Bool) (w : World) (hx : ((b != s0) != s1) = x) (hy : (b != s1) = y) :
    Calls Try.prog 49 #[.agg #[.bool s0, .bool s1], .bool b] w (RetB w (.agg #[.bool x, .bool y])) := by
  subst hx
  subst hy
  cases s0 <;> cases s1 <;> cases b
  all_goals
    go_enter Try.func49, Try.ntmps49
    go_wp2
    refine bodyPost_ret (v := .agg #[.bool _, .bool _]) (by simp [results, Try.f49, go_sem]) rfl ⟨rfl, ((Below.refl _ _).alloc (Nat.le_refl _) _).alloc (by simp) _⟩

def atB (l : List Bool) (i : Int) : Bool := if 0 ≤ i then l.getD i.toNat false else false
set_option maxHeartbeats 400000 in
theorem ref_at (A : Option Addr) (n c : Nat) (l : List Bool) (i : Int) (b : Bool) (w : World) {B : Nat} (h : Reads w B A n (vb l)) (hn : n ≤ 1000) (hr : Hid (atB l i = b)) :
    Calls Try.prog 51 #[.slice A n c, .int .i64 i] w (Ret w (.bool b)) := by
  have H := Lib.hid h.bool_len
  by_cases h0 : 0 ≤ i
  · by_cases h1 : i < n
    · obtain ⟨k, rfl⟩ : ∃ k : Nat, i = k := ⟨i.toNat, by omega⟩
      obtain ⟨ad, x, rfl, hb, hx, hc⟩ := h.bool_at (k := k) (by omega)
      have HB : Hid (x = b) := by unfold Hid; rw [← hr.out]; unfold atB; simp [List.getD, hx]
      clear hx
      go_enter Try.func51, Try.ntmps51
      go_wp2
      go_ret
      exact ⟨ret_b HB.out, rfl⟩
    · have HB : Hid (false = b) := by
        unfold Hid; rw [← hr.out]; unfold atB; rw [if_pos h0]; simp [List.getD]; rw [List.getElem?_eq_none (by have := H.out; omega)]; rfl
      go_enter Try.func51, Try.ntmps51
      go_wp2
      go_ret
      exact ⟨ret_b HB.out, rfl⟩
  · have HB : Hid (false = b) := by unfold Hid; rw [← hr.out]; unfold atB; rw [if_neg h0]
    go_enter Try.func51, Try.ntmps51
    go_wp2
    go_ret
    exact ⟨ret_b HB.out, rfl⟩
def oddT (l : List Bool) : Bool := onesL l % 2 == 1
theorem mod2T (q : Nat) : (((q : Nat) : Int) % 2 == 1) = (q % 2 == 1) := by
  rcases Nat.mod_two_eq_zero_or_one q with h | h
  · rw [h]; have : ((q : Nat) : Int) % 2 = 0 := by omega
    rw [this]; rfl
  · rw [h]; have : ((q : Nat) : Int) % 2 = 1 := by omega
    rw [this]; rfl
set_option maxHeartbeats 400000 in
theorem ref_OddBitsT (A : Option Addr) (n c : Nat) (l : List Bool) (b : Bool) (w : World) {B : Nat} (h : Reads w B A n (vb l)) (hn : n ≤ 1000) (hr : Hid (oddT l = b)) :
    Calls Try.prog 50 #[.slice A n c] w (Ret w (.bool b)) := by
  have H := Lib.hid h.bool_len
  go_enter Try.func50, Try.ntmps50
  go_wp2
  go_loop [3, 8] (fun s i => ∃ k : Nat, k ≤ n ∧ i = .int .i64 k ∧ s = .int .i64 (onesL (l.take k) : Int)) (fun _ i => n - (intOf i).toNat)
  case atStart => exact ⟨0, by omega, rfl, by simp [onesL]⟩
  case round =>
    obtain ⟨k, hk, rfl, rfl⟩ := hrel
    have hbd := onesL_le (l.take k)
    have hbd2 : (l.take k).length ≤ k := List.length_take_le _ _
    have hq : onesL (l.take k) ≤ k := by omega
    clear hbd hbd2
    by_cases hlt : k < n
    · obtain ⟨ad, x, rfl, hb, hx, hc⟩ := h.bool_at hlt
      have HX := Lib.hid (onesL_next hx)
      clear hx
      generalize onesL (l.take k) = q at *
      cases x
      · go_wp2
        go_round
        case rel => exact ⟨k + 1, by omega, by go_num, by rw [HX.out]; simp⟩
        case measure => simp [intOf]; omega
      · go_wp2
        go_round
        case rel => exact ⟨k + 1, by omega, by go_num, by rw [HX.out]; simp⟩
        case measure => simp [intOf]; omega
    · obtain rfl : k = n := by omega
      have ht : onesL (l.take k) = onesL l := by rw [List.take_of_length_le (Nat.le_of_eq H.out)]
      have hE : (((onesL l : Nat) : Int) % 2 == 1) = b := by rw [mod2T, ← hr.out]; rfl
      rw [ht] at hq ⊢
      have HE := Lib.hid hE
      clear ht hE
      generalize onesL l = q at *
      go_wp2
      go_ret
      exact ⟨ret_b HE.out, rfl⟩


def tr1 (l : List Bool) (k : Nat) : Bool := (atB l k != atB l (k - 1)) != atB l (k - 2)
def tr2 (l : List Bool) (k : Nat) : Bool := atB l k != atB l (k - 2)
def trL (l : List Bool) : Nat → List Bool
  | 0 => []
  | k + 1 => trL l k ++ [tr1 l k, tr2 l k]
theorem trL_len (l : List Bool) (k : Nat) : (trL l k).length = 2 * k := by
  induction k with
  | zero => rfl
  | succ k ih => rw [trL, List.length_append, ih]; simp; omega
theorem atB_pad (l : List Bool) (k : Nat) (h : k < l.length + 2) : (l ++ [false, false])[k]? = some (atB l k) := by
  unfold atB
  rw [if_pos (by omega), Int.toNat_natCast]
  rcases Nat.lt_or_ge k l.length with h1 | h1
  · rw [List.getElem?_append_left h1]; simp [List.getD, List.getElem?_eq_getElem h1]
  · rw [List.getElem?_append_right h1]
    have e : l.getD k false = false := by simp [List.getD, List.getElem?_eq_none h1]
    rw [e]
    rcases (by omega : k - l.length = 0 ∨ k - l.length = 1) with h2 | h2 <;> rw [h2] <;> rfl
theorem one_vbT (l : List Bool) : ∀ u ∈ vb l, u.oneCell' = true := by
  intro u hu; obtain ⟨b, _, rfl⟩ := List.mem_map.1 hu; rfl
theorem cell_of_heap2 {w : World} {g : Nat} {u v : Value} {T : TypeId} (h : w.heap[g]? = some (.cells #[u, v] T (0, 0))) : w.cell? ⟨g, 0, none⟩ = some u ∧ w.cell? ⟨g, 1, none⟩ = some v := by
  have h0 := cell_of_row w g 0 _ T (0, 0) h
  have h1 := cell_of_row w g 1 _ T (0, 0) h
  exact ⟨by rw [h0]; rfl, by rw [h1]; rfl⟩
theorem two_set {w : World} {g : Nat} {u v : Value} {T : TypeId} (x y : Value) (h : w.heap[g]? = some (.cells #[u, v] T (0, 0))) : ((w.setCell ⟨g, 0, none⟩ x).setCell ⟨g, 1, none⟩ y).heap[g]? = some (.cells #[x, y] T (0, 0)) := by
  simp [World.setCell, Array.getElem?_modify, h]
theorem two_frozen {w : World} {g : Nat} {u v : Value} {T : TypeId} (j : Nat) (h : w.heap[g]? = some (.cells #[u, v] T (0, 0))) : w.frozen? ⟨g, j, none⟩ = false := by
  simp [World.frozen?, h]
set_option maxHeartbeats 400000 in
theorem trellis_Put (A : Option Addr) (n c : Nat) (l : List Bool) (w : World) (h : Reads w w.heap.size A n (vb l)) (hn : n ≤ 12) :
    Calls Try.prog 22 #[.slice A n c] w (fun e w' => ∃ A' n' c', e = .returned (.tuple #[.slice A' n' c', .int .i64 0]) ∧ Own w' w.heap.size 4 (.slice A' n' c') (vb (trL l (n + 2))) ∧ Below w.heap.size w w') := by
  have H := Lib.hid h.bool_len
  obtain ⟨W1, hW1⟩ : ∃ W1, W1 = (w.alloc (.cells #[.bool false, .bool false] 99)).alloc (.cells #[.bool false, .bool false] 4) := ⟨_, rfl⟩
  have hs1 : W1.heap.size = w.heap.size + 1 + 1 := by rw [hW1]; simp
  have hbW : Below w.heap.size w W1 := by rw [hW1]; exact ((Below.refl _ _).alloc (Nat.le_refl _) _).alloc (by simp) _
  have hst1 : W1.heap[w.heap.size]? = some (.cells #[.bool false, .bool false] 99 (0, 0)) := by
    rw [hW1, heap_alloc_old _ _ (by simp)]; exact heap_alloc_new _ _
  have hff : Reads W1 W1.heap.size (some ⟨w.heap.size + 1, 0, none⟩) 2 (vb [false, false]) := by
    have := reads_lay (w.alloc (.cells #[.bool false, .bool false] 99)) #[.bool false, .bool false] 4 2 rfl
    rw [World.size_alloc, ← hW1] at this
    exact this.more (by omega)
  have cc := concat_bools2 A (some ⟨w.heap.size + 1, 0, none⟩) n 2 c 2 (vb l) (vb [false, false]) W1 ((h.below hbW).more (by omega)) hff (one_vbT _) (one_vbT _) (by omega)
  rw [hs1, hW1] at cc
  clear hff
  go_enter Try.func22, Try.ntmps22
  go_wp2_with (go_at_call 48; refine cc.mono ?_; clear cc; rintro e w1 ⟨A1, n1, k1, rfl, ho1, hb1⟩)
  rw [← hW1] at ho1 hb1
  clear hW1 h
  have hn1 : n1 = n + 2 := by have := ho1.len; simp at this; have := H.out; omega
  have HN := Lib.hid hn1
  have hst2 : w1.heap[w.heap.size]? = some (.cells #[.bool false, .bool false] 99 (0, 0)) := (hb1.block _ (by omega)).trans hst1
  obtain ⟨ad1, rfl, hlo, hcs⟩ : ∃ ad1, A1 = some ad1 ∧ w.heap.size < ad1.block ∧ (ad1.block < w1.heap.size ∧ ∀ j u, (vb (l ++ [false, false]))[j]? = some u → w1.cell? (ad1.add j) = some u) := by
    obtain ⟨ad1, e, hb, hc⟩ := ho1.reads.cells (by omega)
    refine ⟨ad1, e, ?_, hb, by simpa [vb] using hc⟩
    rcases ho1.2 with ⟨e2, h0⟩ | ⟨g, cap, cur, e2, hbg, _⟩
    · rw [e] at e2; simp at e2
    · rw [e] at e2; injection e2 with e2; injection e2 with e2; subst e2; simp only; omega
  have hbel0 := hbW.trans (hb1.mono hbW.size)
  obtain ⟨B1, hB1⟩ : ∃ B1, B1 = w1.heap.size := ⟨_, rfl⟩
  have hBw : w.heap.size < B1 := by have := hb1.size; omega
  have HBl : B1 ≤ w1.heap.size := by omega
  have HAD : Hid (ad1.block < B1) := by unfold Hid; omega
  have HLO := Lib.hid hlo
  have hcells := hcs.2
  have hn14 : n1 ≤ 14 := by omega
  clear hB1 hs1 hbW hst1 ho1 hb1 hcs hlo hn1
  go_loopw [5, 17] (fun v i wr => ∃ (k : Nat) (out : List Bool) (s0 s1 : Bool), k ≤ n1 ∧ i = .int .i64 k ∧ Hid (trL l k = out) ∧ Hid (atB l ((k : Int) - 1) = s0) ∧ Hid (atB l ((k : Int) - 2) = s1) ∧ Own wr B1 4 v (vb out) ∧ Below w.heap.size w wr ∧ B1 ≤ wr.heap.size ∧ wr.heap[w.heap.size]? = some (.cells #[.bool s0, .bool s1] 99 (0, 0)) ∧ Hid (∀ j u, (vb (l ++ [false, false]))[j]? = some u → wr.cell? (ad1.add j) = some u)) (fun _ i _ => n1 - (intOf i).toNat)
  case atStart => exact ⟨0, [], false, false, by omega, rfl, rfl, rfl, rfl, Own.nil _ _ _, hbel0, HBl, hst2, hcells⟩
  case round =>
    clear hbel0 HBl hst2 hcells
    obtain ⟨k, out, s0, s1, hk, rfl, hout, ha0, ha1, hown, hbel, hB1, hst, hcells⟩ := hrel
    by_cases hlt : k < n1
    · have HD := atB_pad l k (by rw [H.out, ← HN.out]; exact hlt)
      have hc : wr.cell? (ad1.add k) = some (.bool (atB l k)) := hcells.out k _ (by rw [List.getElem?_map, HD]; rfl)
      obtain ⟨hc0, hc1⟩ := cell_of_heap2 hst
      have HOL : Hid ((vb out).length ≤ 28) := by unfold Hid; rw [List.length_map, ← hout.out, trL_len]; omega
      have HS : Hid (trL l (k + 1) = out ++ [tr1 l k, tr2 l k]) := by unfold Hid; rw [trL, hout.out]
      have co := trellis_out s0 s1 (atB l k) (tr1 l k) (tr2 l k) wr (by unfold tr1; rw [ha0.out, ha1.out]) (by unfold tr2; rw [ha1.out])
      clear HD ha1 hout
      generalize hb : atB l k = b at *
      have HB := Lib.hid hb
      clear hb
      generalize tr1 l k = x at *
      generalize tr2 l k = y at *
      go_wp2_with (first
        | (go_at_call 49; refine co.mono ?_; clear co; rintro e w2 ⟨rfl, hb2⟩; have hoA := (hown.below hb2 (Nat.le_refl _)).alloc (.cells #[.bool x, .bool y] 98); have hrA := reads_lay w2 #[.bool x, .bool y] 98 2 rfl; have hsz2 := hb2.size; have hbA : Below wr.heap.size wr (w2.alloc (.cells #[.bool x, .bool y] 98)) := hb2.alloc hsz2 _)
        | (at_builtin; refine appN el_concat_bools rfl _ _ rfl rfl hoA rfl hrA (one_vbT [x, y]) (by have := HOL.out; unfold maxLen; omega) (by have := HOL.out; omega) (by have := hbA.size; omega) ?_; clear hoA hrA; intro v3 w3 ho3 hb3 _ _; have hst3 : w3.heap[w.heap.size]? = some (.cells #[.bool s0, .bool s1] 99 (0, 0)) := (hb3.block _ hBw).trans ((heap_alloc_old _ _ (by omega)).trans ((hb2.block _ (by omega)).trans hst)); obtain ⟨hd0, hd1⟩ := cell_of_heap2 hst3; have hz0 := two_frozen 0 hst3; have hz1 : (w3.setCell ⟨w.heap.size, 0, none⟩ (.bool b)).frozen? ⟨w.heap.size, 1, none⟩ = false := (by rw [World.frozen?_setCell]; exact two_frozen 1 hst3); clear hc0 hc1 hc))
      have hne : v3.ownBlock ≠ some w.heap.size := fun e => by have := (Own.lt ho3 _ e).1; omega
      have hbel3 := (hbel.trans (hbA.mono hbel.size)).trans (hb3.mono (Nat.le_of_lt hBw))
      go_roundw
      case rel =>
        refine ⟨k + 1, out ++ [x, y], b, s0, by omega, by go_num, HS, ?_, ?_, ?_, ?_, ?_, ?_, ?_⟩
        · unfold Hid; rw [← HB.out]; congr 1; omega
        · unfold Hid; rw [← ha0.out]; congr 1; omega
        · have := (ho3.setOther ⟨w.heap.size, 0, none⟩ (.bool b) hne).setOther ⟨w.heap.size, 1, none⟩ (.bool s0) hne
          simpa [vb] using this
        · exact (hbel3.setCell (p := ⟨w.heap.size, 0, none⟩) (Nat.le_refl _) _).setCell (p := ⟨w.heap.size, 1, none⟩) (Nat.le_refl _) _
        · have h1 := hb3.size
          have h2 := hbA.size
          simp only [World.setCell, Array.size_modify]
          omega
        · exact two_set _ _ hst3
        · intro j u hj
          have hn1 : ad1.block ≠ w.heap.size := by have := HLO.out; omega
          rw [World.cell?_setCell_other _ _ _ _ (by intro e; apply hn1; rw [← block_of_add ad1 j]; first | rw [← e] | rw [e]), World.cell?_setCell_other _ _ _ _ (by intro e; apply hn1; rw [← block_of_add ad1 j]; first | rw [← e] | rw [e])]
          refine (hb3.cell (by rw [block_of_add]; exact HAD.out)).trans ?_
          refine (hbA.cell (by rw [block_of_add]; have := HAD.out; omega)).trans ?_
          exact hcells.out j u hj
      case measure => simp [intOf]; omega
    · obtain rfl : k = n1 := by omega
      obtain ⟨A3, k3, e⟩ := hown.form
      generalize (vb out).length = n3 at e
      subst e
      go_wp2
      go_ret2
      exact ⟨A3, n3, k3, rfl, by rw [← HN.out, hout.out]; exact hown.low (Nat.le_of_lt hBw), hbel⟩
end Go.Proofs.Ytijhcbnnopklaaa

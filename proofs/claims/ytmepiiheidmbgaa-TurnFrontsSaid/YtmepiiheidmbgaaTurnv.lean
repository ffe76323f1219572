import Derived.Test.YtmepiiheidmbgaaTurnr
import Derived.Test.YtmepiiheidmbgaaInts
import Derived.Shelf.Bytes.IndexByte
set_option linter.unusedVariables false
namespace Go.Proofs.Ytmepiiheidmbgaa
open Go.RowKit Go.Shelf

def lays187_ren : Go.Shelf.Ren := ⟨fun | 187 => 63 | 255 => 81 | n => n, fun | 37 => 39 | 5 => 5 | 3 => 3 | n => n, fun | n => n⟩
theorem lays187 : Go.Proofs.Lays.n187 Try.prog lays187_ren := {
  mixed := by kernel_rfl
  f187 := Try.func63.trans (congrArg some (by kernel_rfl))
  f255 := Try.func81.trans (congrArg some (by kernel_rfl))
  t3 := Try.underlying3
  a3 := Try.isAgg3
  z3 := Try.sizeOf3
  v3 := Try.zeroValue3
  t5 := Try.underlying5
  a5 := Try.isAgg5
  z5 := Try.sizeOf5
  v5 := Try.zeroValue5
  t37 := Try.underlying39
  a37 := Try.isAgg39
  z37 := Try.sizeOf39
  v37 := Try.zeroValue39 }
theorem u8_eq {a b : Nat} (ha : a < 256) (hb : b < 256) : (UInt8.ofNat a == UInt8.ofNat b) = (a == b) := by
  rw [Bool.eq_iff_iff]
  simp only [beq_iff_eq]
  constructor
  · intro h
    have := congrArg UInt8.toNat h
    simpa [UInt8.toNat_ofNat', Nat.mod_eq_of_lt ha, Nat.mod_eq_of_lt hb] using this
  · intro h; rw [h]
theorem indexByte_idx : ∀ (l : List Nat) (b : Nat), (∀ x ∈ l, x < 256) → b ∈ l → Lib.indexByte (Lib.bytesOf (l.map fun x : Nat => (x : Int))) (UInt8.ofNat b) = (l.idxOf b : Int)
  | [], b, _, h => by cases h
  | a :: t, b, hl, h => by
    have ha := hl a (List.mem_cons_self ..)
    have hb := hl b h
    have e : Lib.bytesOf ((a :: t).map fun x : Nat => (x : Int)) = UInt8.ofNat a :: Lib.bytesOf (t.map fun x : Nat => (x : Int)) := rfl
    rw [e, Lib.indexByte]
    by_cases hab : a = b
    · subst hab
      rw [List.idxOf_cons_self]; simp
    · have hbt : b ∈ t := by cases h with
        | head => exact absurd rfl hab
        | tail _ h => exact h
      have ih := indexByte_idx t b (fun x hx => hl x (List.mem_cons_of_mem _ hx)) hbt
      have hne : ¬ UInt8.ofNat a = UInt8.ofNat b := by
        intro h
        have := u8_eq ha hb
        rw [h] at this; simp at this; exact hab this
      rw [idx_ne hab, ih]
      simp [hne]
      try omega
theorem bytes_IndexByte (g N c : Nat) (l : List Nat) (b : Nat) (w : World) {base : Nat} (hown : Own w base 5 (.slice (some ⟨g, 0, none⟩) N c) (vn .u8 l)) (hl : ∀ x ∈ l, x < 256) (hb : b ∈ l) (q : Nat) (hq : Hid (l.idxOf b = q)) :
    Calls Try.prog 63 #[.slice (some ⟨g, 0, none⟩) N c, .int .u8 (b : Int)] w (Ret w (.int .i64 (q : Int))) := by
  have H := hown.reads.nat_len
  have hb256 := hl b hb
  refine (Any.bytes_IndexByte lays187 g 0 N c (l.map fun x : Nat => (x : Int)) (b : Int) w (by simpa using H) (fun i hi => ?_)).mono fun e w' ⟨h1, h2⟩ => ⟨?_, h2.symm⟩
  · have hi2 : i < l.length := by omega
    have := hown.cell (j := i) (u := .int .u8 (l[i] : Int)) (by rw [List.getElem?_map, List.getElem?_eq_getElem hi2]; rfl)
    rw [add_row] at this
    rw [Nat.zero_add, this]
    simp [List.getD_eq_getElem?_getD, hi2]
  · have e1 : (b : Int).toNat.toUInt8 = UInt8.ofNat b := by rw [Int.toNat_natCast]
    rw [h1, e1, indexByte_idx l b hl hb, hq.out]
theorem fr_step {t : List Nat} {k b : Nat} (hx : t[k]? = some b) (ht : ∀ x ∈ t, x < 256) : stM (t.take (k + 1)) = frontL (stM (t.take k)) (cntM (t.take k) b) ∧ (stM (t.take k)).idxOf b = cntM (t.take k) b ∧ b ∈ stM (t.take k) ∧ (∀ x ∈ stM (t.take k), x < 256) ∧ cntM (t.take k) b < 256 := by
  have hp : ∀ x ∈ t.take k, x < 256 := fun x hx => ht x (List.mem_of_mem_take hx)
  have hi := stM_inv hp
  have hb := ht b (mem_at hx)
  have hbm := hi.mem hb
  have e := hi.idx hb
  refine ⟨?_, e, hbm, fun x hx => hi.lt hx, cnt_lt hp hb⟩
  rw [take_next hx, stM_snoc, ← e]
  have hlt := List.idxOf_lt_length_of_mem hbm
  rw [frontL_mtf hi.nodup (x := b) (by rw [List.getElem?_eq_getElem hlt, List.getElem_idxOf hlt])]
set_option maxHeartbeats 800000 in
theorem turn_Front (A : Option Addr) (n c : Nat) (t : List Nat) (w : World) (h : Reads w w.heap.size A n (vn .u8 t)) (hn : n ≤ 64) (ht : ∀ x ∈ t, x < 256) :
    Calls Try.prog 31 #[.slice A n c] w (fun e w' => Below w.heap.size w w' ∧ ∃ A' n' c', e = .returned (.tuple #[.slice A' n' c', .int .i64 0]) ∧ Own w' w.heap.size 3 (.slice A' n' c') (vn .i64 (frL t))) := by
  have H := Lib.hid h.nat_len
  have HT := Lib.hid ht
  clear ht
  have cl := turn_list w
  go_enter Try.func31, Try.ntmps31
  go_wp2_with (go_at_call 61; refine cl.mono ?_; clear cl; rintro e w1 ⟨A1, N, c1, rfl, ho1, hb1⟩)
  have hN : N = 256 := by have := ho1.reads.nat_len; simpa using this.symm
  obtain ⟨ad1, rfl, _⟩ := ho1.reads.cells (by omega)
  obtain ⟨g, rfl, hg1, hg2⟩ := ho1.addr
  have hN2 : 2 ≤ N := by omega
  have hN3 : N ≤ 1000 := by omega
  have HN := Lib.hid hN
  clear hN
  go_loopw [5, 15] (fun v i wr => ∃ k : Nat, k ≤ n ∧ i = .int .i64 k ∧ Own wr w.heap.size 3 v (vn .i64 (frL (t.take k))) ∧ Own wr w.heap.size 5 (.slice (some ⟨g, 0, none⟩) N c1) (vn .u8 (stM (t.take k))) ∧ v.ownBlock ≠ some g ∧ Below w.heap.size w wr) (fun _ i _ => n - (intOf i).toNat)
  case atStart => exact ⟨0, by omega, rfl, Own.nil _ _ _, (by rw [List.take_zero]; unfold stM; rw [List.foldl_nil]; exact ho1), (by simp [Value.ownBlock]), hb1⟩
  case round =>
    obtain ⟨k, hk, rfl, hown, hlist, hne, hbel⟩ := hrel
    by_cases hlt : k < n
    · obtain ⟨ad, b, rfl, hb, hx, hc0⟩ := h.nat_at hlt
      have hc : wr.cell? (ad.add k) = some (.int .u8 (b : Int)) := (hbel.cell (by rw [block_of_add]; exact hb)).trans hc0
      obtain ⟨f1, f2, f3, f4, f5⟩ := fr_step hx HT.out
      have hnew : Hid (vn .i64 (frL (t.take k)) ++ [Value.int .i64 ((cntM (t.take k) b : Nat) : Int)] = vn .i64 (frL (t.take (k + 1)))) := by
        unfold Hid vn; rw [frL_take hx, List.map_append]; rfl
      have hvl : Hid ((vn .i64 (frL (t.take k))).length = k) := by unfold Hid; rw [List.length_map, frL_len, List.length_take, H.out]; omega
      have ci := bytes_IndexByte g N c1 (stM (t.take k)) b wr hlist f4 f3 (cntM (t.take k) b) f2
      have cf := turn_front ⟨g, 0, none⟩ N c1 (cntM (t.take k) b) (stM (t.take k)) wr hlist (by have := HN.out; omega) hN2 hN3 hbel.size
      rw [← f1] at cf
      clear hx hc0 f1 f2 f3 f4
      generalize cntM (t.take k) b = q at *
      go_wp2_with (first
        | (go_at_call 63; refine ci.mono ?_; clear ci; rintro e w' ⟨rfl, rfl⟩)
        | (go_at_call 62; refine cf.mono ?_; clear cf; rintro e w2 ⟨rfl, ho2, hg2'⟩; have hown2 := hown.kept hg2' (.inr hne); have hbel2 := hbel.trans (grown_below hg2' hbel.size (fun q e => by cases e; exact hg1)))
        | (at_builtin; refine app1 el_intT rfl _ _ rfl rfl hown2 _ _ rfl rfl (by rw [hvl.out]; unfold maxLen; omega) (by rw [hvl.out]; omega) hbel2.size ?_; intro v3 w3 ho3 hb3 hg3 hat3))
      rw [hnew.out] at ho3
      have hlist3 := ho2.kept hg3 (.inr (fun e => hne e.symm))
      go_roundw
      case rel =>
        refine ⟨k + 1, by omega, by go_num, ho3, hlist3, ?_, hbel2.trans hb3⟩
        have := hg2'.size
        rcases hat3 with h7 | h7
        · rw [h7]; exact hne
        · rw [h7]; intro e; injection e with e; have := (Own.lt hlist g rfl).2; omega
      case measure => simp [intOf]; omega
    · obtain rfl : k = n := by omega
      rw [List.take_of_length_le (Nat.le_of_eq H.out)] at hown
      obtain ⟨A2, c2, e⟩ := hown.form
      rw [List.length_map, frL_len, H.out] at e
      subst e
      go_wp2
      go_ret2
      exact ⟨hbel, A2, k, c2, rfl, hown⟩
theorem turn_Front_big (A : Option Addr) (n c : Nat) (w : World) (hn : 64 < n) :
    Calls Try.prog 31 #[.slice A n c] w (Ret w (.tuple #[.slice none 0 0, .int .i64 1])) := by
  go_enter Try.func31, Try.ntmps31
  go_wp2
  go_ret2
  exact ⟨rfl, rfl⟩
theorem vn_vi (K : IntKind) (l : List Nat) : vn K l = vi K (l.map fun x : Nat => (x : Int)) := by unfold vn vi; rw [List.map_map]; rfl
set_option maxHeartbeats 800000 in
theorem TurnFronts_walk (A : Option Addr) (n c : Nat) (t : List Nat) (w : World) (h : Reads w w.heap.size A n (vn .u8 t)) (hl : ∀ z ∈ t, z < 256) (hm : n * 1 ≤ reachBytes) :
    Calls Try.prog 9 #[.slice A n c] w (LawTrue w) := by
  have H := Lib.hid h.nat_len
  clear hm
  by_cases hn : 64 < n
  · have c1 := turn_Front_big A n c w hn
    go_enter Try.func9, Try.ntmps9
    go_wp2_with (go_at_call 31; refine c1.mono ?_; clear c1; rintro e w1 ⟨rfl, rfl⟩)
    go_ret
    exact .same _
  · have c1 := turn_Front A n c t w h (by omega) hl
    have c2 := fun (w1 : World) (hb : Below w.heap.size w w1) => ref_Fronts A n c t w1 ((h.below hb).more hb.size) (by omega) hl
    have hfl : Hid ((frL t).length = n) := by unfold Hid; rw [frL_len, H.out]
    have c3 := fun (A1 A2 : Option Addr) (n1 n2 k1 k2 : Nat) (w2 : World) (g1 : Reads w2 w2.heap.size A1 n1 (vn .i64 (frL t))) (g2 : Reads w2 w2.heap.size A2 n2 (vn .i64 (frL t))) => ref_Ints A1 A2 n1 n2 k1 k2 ((frL t).map fun x : Nat => (x : Int)) ((frL t).map fun x : Nat => (x : Int)) true w2 (by rw [← vn_vi]; exact g1) (by rw [← vn_vi]; exact g2) (by have := g1.nat_len; have := hfl.out; unfold maxLen; omega) (by simp [Hid])
    generalize frL t = f at *
    clear hl
    go_enter Try.func9, Try.ntmps9
    go_wp2_with (first
      | (go_at_call 31; refine c1.mono ?_; clear c1; rintro e w1 ⟨hb1, A1, n1, k1, rfl, ho1⟩; have c2 := c2 w1 hb1)
      | (go_at_call 33; refine c2.mono ?_; clear c2; rintro e w2 ⟨A2, n2, k2, rfl, ho2, hb2⟩; have c3 := c3 A1 A2 n1 n2 k1 k2 w2 ((ho1.below hb2 (Nat.le_refl _)).reads) ho2.reads)
      | (go_at_call 32; refine c3.mono ?_; rintro e w3 ⟨rfl, m, rfl⟩))
    go_ret
    exact ⟨rfl, below_drewN (hb1.trans (hb2.mono hb1.size)) _⟩
end Go.Proofs.Ytmepiiheidmbgaa

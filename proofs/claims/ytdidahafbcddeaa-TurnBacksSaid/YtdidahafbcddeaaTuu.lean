/-
  turn.Turn walked: texts of one byte and more.
-/
import Derived.Test.YtdidahafbcddeaaTut
set_option linter.unusedVariables false
namespace Go.Proofs.Ytdidahafbcddeaa
open Go.RowKit Go.Shelf Go.Sort

set_option maxRecDepth 100000 in
set_option maxHeartbeats 1600000 in
theorem turn_Turn_some (A : Option Addr) (n c M : Nat) (T : List Nat) (w : World) (h : Reads w w.heap.size A n (vn .u8 T)) (hB : Byt T) (hn : n ≤ 64) (hM : Hid (n = M + 1)) :
    Calls Try.prog 18 #[.slice A n c] w (TurnP w T) := by
  have hTl := h.nat_len
  have HT := Lib.hid hTl
  have HB := Lib.hid hB
  have hn1 : 1 ≤ n := by have := hM.out; omega
  have j0 : ¬ (64 : Int) < (n : Int) := by omega
  have hw1 : Below w.heap.size w (w.alloc (.cells #[.int .i64 (n : Int)] 3)) := (Below.refl _ w).alloc (Nat.le_refl _) _
  have cc := concat_bytes2 A A n n c c (vn .u8 T) (vn .u8 T) (w.alloc (.cells #[.int .i64 (n : Int)] 3)) ((h.below hw1).more hw1.size) ((h.below hw1).more hw1.size) (one_vn _ _) (one_vn _ _) (by omega)
  simp only [World.size_alloc] at cc
  rw [← List.map_append] at cc
  have HH := Lib.hid h
  clear hTl hB h
  go_enter Try.func18, Try.ntmps18
  go_wp2_with (go_at_call 37; refine cc.mono ?_; clear cc; rintro e w3 ⟨A3, n3, c3, rfl, ho3, hb3⟩
               obtain rfl : n3 = n + n := by have := ho3.len; rw [List.length_map, List.length_append, HT.out] at this; exact this.symm
               obtain ⟨ad, rfl, hadb, -⟩ := ho3.reads.cells (by omega)
               have hc3 : n + n ≤ c3 := ho3.capLe'
               have hb4 : Below w.heap.size w (w3.alloc (.cells #[.slice (some ad) (n + n) c3] 42)) := by
                 have h1 := hw1.trans (hb3.mono hw1.size)
                 exact h1.alloc h1.size _
               have hs3 : w.heap.size < w3.heap.size := by have := hb3.size; simp at this; omega
               have k5 : (w3.alloc (.cells #[.slice (some ad) (n + n) c3] 42)).cell? ⟨w.heap.size, 0, none⟩ = some (.int .i64 (n : Int)) := by
                 have h2 := (hb3.cell (p := ⟨w.heap.size, 0, none⟩) (by simp)).trans (cell_one_new w (.int .i64 (n : Int)) 3 0 _ rfl)
                 exact (World.cell?_alloc_lt _ _ _ hs3).trans h2
               have k6 : (w3.alloc (.cells #[.slice (some ad) (n + n) c3] 42)).cell? ⟨w3.heap.size, 0, none⟩ = some (.slice (some ad) (n + n) c3) := cell_one_new w3 _ _ 0 _ rfl
               have rd : Reads (w3.alloc (.cells #[.slice (some ad) (n + n) c3] 42)) w3.heap.size (some ad) (n + n) (vn .u8 (T ++ T)) := ho3.reads.alloc (Nat.le_refl _) _
               have hs4 : w3.heap.size < (w3.alloc (.cells #[.slice (some ad) (n + n) c3] 42)).heap.size := by simp
               clear ho3 hb3)
  obtain ⟨b5, hb5⟩ : ∃ b, w.heap.size = b := ⟨_, rfl⟩
  rw [hb5] at k5 hs3 ⊢
  obtain ⟨b6, hb6⟩ : ∃ b, w3.heap.size = b := ⟨_, rfl⟩
  rw [hb6] at k6 rd hs3 hs4 ⊢
  generalize w3.alloc (.cells #[.slice (some ad) (n + n) c3] 42) = w4 at *
  have HB4 := Lib.hid hb4
  have H5 := Lib.hid hb5
  clear hb4 hb5 hb6 hw1
  go_loopw [22, 7] (fun iv ov wr => ∃ k : Nat, k ≤ n ∧ iv = .int .i64 (k : Int) ∧ Own wr w4.heap.size 3 ov (vn .i64 (List.range k)) ∧ Below w4.heap.size w4 wr) (fun iv _ _ => n - (intOf iv).toNat)
  case atStart => exact ⟨0, Nat.zero_le _, rfl, Own.nil _ _ _, Below.refl _ _⟩
  case round =>
    obtain ⟨k, hk, rfl, hown, hbel⟩ := hrel
    by_cases hlt : k < n
    · have i1 : (k : Int) < (n : Int) := by omega
      have hvl : Hid ((vn .i64 (List.range k)).length = k) := by unfold Hid; rw [List.length_map, List.length_range]
      have hsn : Hid (vn .i64 (List.range k) ++ [Value.int .i64 (k : Int)] = vn .i64 (List.range (k + 1))) := by unfold Hid; rw [vn_snoc, List.range_succ]
      go_wp2_with (at_builtin; refine app1 el_intT rfl _ _ rfl rfl hown _ _ rfl rfl (by rw [hvl.out]; unfold maxLen; omega) (by rw [hvl.out]; omega) hbel.size ?_; intro v2 w2 ho2 hb2 _ _)
      rw [hsn.out] at ho2
      go_roundw
      case rel => exact ⟨k + 1, by omega, by go_num, ho2, hbel.trans hb2⟩
      case measure => simp [intOf] <;> omega
    · obtain rfl : k = n := by omega
      have i1 : ¬ (k : Int) < (k : Int) := by omega
      obtain ⟨wo, rfl⟩ : ∃ x, x = wr := ⟨_, rfl⟩
      have hkM := hM.out
      rw [hkM, ← vals_range M] at hown
      obtain ⟨A1, c1, e1⟩ := hown.form
      rw [List.length_map, List.length_finRange, ← hkM] at e1
      subst e1
      obtain ⟨ad1, rfl, -⟩ := hown.reads.cells (by omega)
      obtain ⟨g1, rfl, hg1, hg2⟩ := hown.addr
      have hsort := own_order (key := fun i : Fin (M + 1) => nv (trn T i.val)) ⟨g1, 0, none⟩ c1 39 #[.pointer (some ⟨b6, 0, none⟩), .pointer (some ⟨b5, 0, none⟩)] (fun x y => cmpT (trn T x.val) (trn T y.val)) wo hown hM hn (enters_of Try.func39 (by kernel_rfl) rfl) (fun W hW x y => by
        have hx : x.val < k := by have := x.isLt; omega
        have hy : y.val < k := by have := y.isLt; omega
        have hbW : Below w4.heap.size w4 W := hbel.trans (grown_below hW hbel.size (fun q e => by cases e; exact hg1))
        exact turn_less b5 b6 k c3 x.val y.val ad T W ((rd.below (hbW.mono (by omega)))) HT.out hc3 hn ((hbW.cell (p := ⟨b6, 0, none⟩) (by show b6 < _; omega)).trans k6) ((hbW.cell (p := ⟨b5, 0, none⟩) (by show b5 < _; omega)).trans k5) hx hy)
        (fun x y => by
          have hx : x.val ≤ T.length := by have := x.isLt; have := HT.out; omega
          have hy : y.val ≤ T.length := by have := y.isLt; have := HT.out; omega
          exact cmpT_lt (by rw [trn_len hx, trn_len hy]) (trn_byt HB.out _) (trn_byt HB.out _))
      have k5o := (hbel.cell (p := ⟨b5, 0, none⟩) (by show b5 < _; omega)).trans k5
      have HK5 := Lib.hid k5
      have HK6 := Lib.hid k6
      have HRD := Lib.hid rd
      have HBEL := Lib.hid hbel
      clear hown k5 k6 rd hbel hkM
      go_wp2_with (go_at_call 38; refine hsort.mono ?_; clear hsort; rintro e w5 ⟨rfl, hg5, r, hperm, hpw, ho5⟩)
      have hb5 : Below w4.heap.size w4 w5 := HBEL.out.trans (grown_below hg5 HBEL.out.size (fun q e => by cases e; exact hg1))
      have hord : Ord T (r.map Fin.val) := ord_of (by rw [HT.out]; exact hM.out) hperm hpw
      have hvn : r.map (encF M) = vn .i64 (r.map Fin.val) := by
        show _ = List.map _ (List.map _ r)
        rw [List.map_map]; rfl
      rw [hvn] at ho5
      clear hvn hperm hpw hg5
      generalize r.map Fin.val = rs at *
      have hrl := Lib.hid hord.len
      have HO := Lib.hid hord
      have HO5 := Lib.hid ho5
      have HB5 := Lib.hid hb5
      clear hord ho5 hb5 k5o
      go_loopw [35, 9] (fun iv ov wr => ∃ t : Nat, t ≤ k ∧ iv = .int .i64 (t : Int) ∧ Own wr w5.heap.size 5 ov (vn .u8 ((rs.take t).map (lastT T))) ∧ Below w5.heap.size w5 wr) (fun iv _ _ => k - (intOf iv).toNat)
      case atStart => exact ⟨0, Nat.zero_le _, rfl, Own.nil _ _ _, Below.refl _ _⟩
      case round =>
        obtain ⟨t, ht, rfl, hown, hbel⟩ := hrel
        obtain ⟨wp, rfl⟩ : ∃ x, x = wr := ⟨_, rfl⟩
        have hb45 : Below w4.heap.size w4 wp := HB5.out.trans (hbel.mono HB5.out.size)
        by_cases hlt2 : t < k
        · have i2 : (t : Int) < (k : Int) := by omega
          have i0 : (0 : Int) ≤ (t : Int) := by omega
          obtain ⟨i, hi⟩ : ∃ i, rs[t]? = some i := ⟨_, List.getElem?_eq_getElem (by have := hrl.out; have := HT.out; omega)⟩
          have hik : i < k := by have := HO.out.lt (mem_at hi); have := HT.out; omega
          have hcr := (HO5.out.below hbel (Nat.le_refl _)).cell (j := t) (u := .int .i64 (i : Int)) (by rw [List.getElem?_map, hi]; rfl)
          rw [add_row] at hcr
          have q5 := (hb45.cell (p := ⟨b5, 0, none⟩) (by show b5 < _; omega)).trans HK5.out
          have q6 := (hb45.cell (p := ⟨b6, 0, none⟩) (by show b6 < _; omega)).trans HK6.out
          obtain ⟨p, hp⟩ : ∃ p, i + k - 1 = p := ⟨_, rfl⟩
          have ep : (i : Int) + (k : Int) - 1 = (p : Int) := by omega
          have ep0 : (0 : Int) ≤ (p : Int) := by omega
          have ep1 : (p : Int) < (k : Int) + (k : Int) := by omega
          obtain ⟨y, hy⟩ : ∃ y, lastT T i = y := ⟨_, rfl⟩
          have hcy : wp.cell? (ad.add p) = some (.int .u8 (y : Int)) := by
            obtain ⟨a, e, _, hc⟩ := (HRD.out.below (hb45.mono (by omega))).cells (by omega)
            injection e with e; subst e
            refine hc p _ ?_
            have hl2 := lastT_twice (T := T) (i := i) (by have := HT.out; omega)
            rw [HT.out, hp, hy] at hl2
            rw [List.getElem?_map, hl2]; rfl
          have hvl : Hid ((vn .u8 ((rs.take t).map (lastT T))).length = t) := by unfold Hid; rw [List.length_map, List.length_map, List.length_take, hrl.out, HT.out]; omega
          have hsn : Hid (vn .u8 ((rs.take t).map (lastT T)) ++ [Value.int .u8 (y : Int)] = vn .u8 ((rs.take (t + 1)).map (lastT T))) := by unfold Hid; rw [vn_snoc, take_next hi, List.map_append, ← hy]; rfl
          clear hi hy hp
          go_wp2_with (at_builtin; refine app1 el_concat_bytes rfl _ _ rfl rfl hown _ _ rfl rfl (by rw [hvl.out]; unfold maxLen; omega) (by rw [hvl.out]; omega) hbel.size ?_; intro v2 w2 ho2 hb2 _ _)
          rw [hsn.out] at ho2
          go_roundw
          case rel => exact ⟨t + 1, by omega, by go_num, ho2, hbel.trans hb2⟩
          case measure => simp [intOf] <;> omega
        · obtain rfl : t = k := by omega
          have i2 : ¬ (t : Int) < (t : Int) := by omega
          rw [List.take_of_length_le (by rw [hrl.out, HT.out]; exact Nat.le_refl _)] at hown
          obtain ⟨q, hq⟩ : ∃ q, rs.idxOf 0 = q := ⟨_, rfl⟩
          have hqt : q < t := by
            have hm : 0 ∈ rs := HO.out.perm.mem_iff.2 (List.mem_range.2 (by have := HT.out; omega))
            have := List.idxOf_lt_length_of_mem hm
            have := hrl.out
            have := HT.out
            omega
          have ci := index_zero _ t c1 q rs wp ((HO5.out.below hbel (Nat.le_refl _)).reads) (by omega) hq hqt
          have hq0 : (0 : Int) ≤ (q : Int) := by omega
          have hq1 : ¬ (q : Int) < 0 := by omega
          have HQ := Lib.hid hq
          obtain ⟨A9, c9, e9⟩ := hown.form
          rw [List.length_map, List.length_map, hrl.out, HT.out] at e9
          subst e9
          have HOW := Lib.hid hown
          have hbf : Below w.heap.size w wp := by have h1 := HB4.out; exact h1.trans (hb45.mono h1.size)
          have HBF := Lib.hid hbf
          clear hq hown hbf hb45
          go_wp2_with (go_at_call 41; refine ci.mono ?_; clear ci; rintro e w' ⟨rfl, m, rfl⟩)
          go_ret3
          exact ⟨A9, t, c9, rs.map (lastT T), q, rfl, ⟨rs, HO.out, rfl, HQ.out.symm⟩, (HOW.out.reads).drewN m, below_drewN HBF.out m⟩
theorem turn_Turn (A : Option Addr) (n c : Nat) (T : List Nat) (w : World) (h : Reads w w.heap.size A n (vn .u8 T)) (hB : Byt T) (hn : n ≤ 64) :
    Calls Try.prog 18 #[.slice A n c] w (TurnP w T) := by
  rcases Nat.eq_zero_or_pos n with e | e
  · subst e; exact turn_Turn_nil A c T w h
  · exact turn_Turn_some A n c (n - 1) T w h hB hn (show n = n - 1 + 1 by omega)
end Go.Proofs.Ytdidahafbcddeaa

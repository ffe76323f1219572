/-
  The law StripePlays.
-/
import Derived.Test.YtglcljlafioleaaArv
import Derived.Test.YtglcljlafioleaaBytesEq
set_option linter.unusedVariables false
namespace Go.Proofs.Ytglcljlafioleaa
open Go.RowKit

def mvOf (zss : List (List Int)) : List (Int × Int × Nat) := zss.map fun z => (z.getD 0 0, z.getD 1 0, (z.getD 2 0).toNat)
theorem three_of {z : List Int} (h : z.length = 3) : z = [z.getD 0 0, z.getD 1 0, z.getD 2 0] := by
  match z, h with
  | [a, b, c], _ => rfl
theorem mvOf_is (zss : List (List Int)) (wf : ∀ zs ∈ zss, zs.length = [IntKind.i64, IntKind.i64, IntKind.u8].length ∧ ∀ (j : Nat) (z : Int) (k : IntKind), zs[j]? = some z → [IntKind.i64, IntKind.i64, IntKind.u8][j]? = some k → (Lit.int k z).wf = true) :
    (zss.map fun zs => List.zipWith Value.int [.i64, .i64, .u8] zs) = (mvOf zss).map mvC ∧ ∀ m ∈ mvOf zss, m.2.2 < 256 := by
  have hb : ∀ z ∈ zss, z = [z.getD 0 0, z.getD 1 0, z.getD 2 0] ∧ 0 ≤ z.getD 2 0 ∧ z.getD 2 0 < 256 := by
    intro z hz
    obtain ⟨h1, h2⟩ := wf z hz
    have h3 := three_of h1
    have h4 := bounds_u8 (h2 2 (z.getD 2 0) .u8 (by rw [h3]; rfl) rfl)
    exact ⟨h3, h4.1, by have := h4.2; omega⟩
  constructor
  · unfold mvOf
    rw [List.map_map]
    apply List.map_congr_left
    intro z hz
    obtain ⟨h1, h2, h3⟩ := hb z hz
    show List.zipWith Value.int [.i64, .i64, .u8] z = [Value.int .i64 (z.getD 0 0), Value.int .i64 (z.getD 1 0), Value.int .u8 (((z.getD 2 0).toNat : Nat) : Int)]
    rw [Int.toNat_of_nonneg h2]
    conv => lhs; rw [h1]
    rfl
  · intro m hm
    unfold mvOf at hm
    obtain ⟨z, hz, rfl⟩ := List.mem_map.1 hm
    obtain ⟨h1, h2, h3⟩ := hb z hz
    show (z.getD 2 0).toNat < 256
    omega
theorem mvR_lt {d : Nat} {bl : List Nat} (hb : ∀ x ∈ bl, x < 256) (z kind block : Int) (v : Nat) (hv : v < 256) : ∀ x ∈ (mvR d bl z kind block v).bl, x < 256 := by
  have hs : ∀ x ∈ bl.set block.toNat v, x < 256 := by
    intro x hx
    rcases List.mem_or_eq_of_mem_set hx with h | h
    · exact hb x h
    · omega
  unfold mvR
  repeat' split
  all_goals first
    | exact hb
    | exact hs
theorem playR_lt {d : Nat} {l : List (Int × Int × Nat)} (hl : ∀ m ∈ l, m.2.2 < 256) : ∀ k, ∀ x ∈ (playR d l k).bl, x < 256
  | 0 => by
    intro x hx
    have : x = 0 := List.eq_of_mem_replicate (show x ∈ List.replicate 24 0 from hx)
    omega
  | k + 1 => by
    cases h : l[k]? with
    | none => rw [playR, h]; exact playR_lt hl k
    | some m =>
      rw [playR_next h]
      exact mvR_lt (playR_lt hl k) _ _ _ _ (hl m (List.mem_of_getElem? h))
set_option maxHeartbeats 800000 in
theorem stripe_law_err (d : Int) (A : Option Addr) (n c : Nat) (w : World) (z : Int) (h : (d < 3 ∨ 6 < d) ∧ z = 4 ∨ (3 ≤ d ∧ d ≤ 6 ∧ 100 < n) ∧ z = 1) :
    Calls Try.prog 8 #[.int .i64 d, .slice A n c] w (LawTrue w) := by
  rcases h with ⟨h, rfl⟩ | ⟨⟨h3, h6, hn⟩, rfl⟩
  · have c1 := stripe_Play_no d A n c w h
    have c2 := law_discs d 4 w (by simp [Hid, discsErr, h])
    clear h
    go_enter Try.func8, Try.ntmps8
    go_wp2_with (first | (go_at_call 24; refine c1.mono ?_; rintro e w' ⟨rfl, rfl⟩) | (go_at_call 25; refine c2.mono ?_; rintro e w' ⟨rfl, rfl⟩))
    go_ret
    exact .same _
  · have c1 := stripe_Play_far d A n c w h3 h6 hn
    have c2 := law_discs d 0 w (by unfold Hid discsErr; rw [if_neg (by omega)])
    have i0 : (100 : Int) < (n : Int) := by omega
    go_enter Try.func8, Try.ntmps8
    go_wp2_with (first | (go_at_call 24; refine c1.mono ?_; rintro e w' ⟨rfl, rfl⟩) | (go_at_call 25; refine c2.mono ?_; rintro e w' ⟨rfl, rfl⟩))
    go_ret
    exact .same _
set_option maxRecDepth 100000 in
set_option maxHeartbeats 2000000 in
theorem stripe_law (d : Nat) (A : Option Addr) (n c : Nat) (l : List (Int × Int × Nat)) (w : World) (h : ReadsK w w.heap.size 3 A n (l.map mvC)) (hl : ∀ m ∈ l, m.2.2 < 256) (h3 : 3 ≤ d) (h6 : d ≤ 6) (hn : n ≤ 100) :
    Calls Try.prog 8 #[.int .i64 (d : Int), .slice A n c] w (LawTrue w) := by
  obtain ⟨s1, s2, T, sim⟩ := sim_play h3 h6 l n
  have c1 := stripe_Play d A n c l w h hl h3 h6 hn
  have c2 := fun W => law_discs (d : Int) 0 W (by unfold Hid discsErr; rw [if_neg (by omega)])
  have c3 := fun (W : World) (hW : Below w.heap.size w W) => ref_Moves d A n c l W ((h.below hW).more hW.size) hl h3 h6 hn
  rw [s1, s2] at c1
  rw [s2] at sim
  have hbl := playR_lt (d := d) hl n
  have hz := sim.lost
  have i0 : ¬ (100 : Int) < (n : Int) := by omega
  obtain ⟨r1, r2, _⟩ := rowsD_is h3 h6
  have hvis := sim.vis
  have hdisc := fun a row (ha : a < d) (hr : row < rowsD d) => sim.discs h3 h6 ha hr
  generalize (playR d l n).outs = outs at *
  generalize (playR d l n).bl = bl at *
  generalize (playR d l n).z = z at *
  generalize (playD d l n).f = f at *
  have c4 := fun (g : Nat) (W : World) (hr : Reads W W.heap.size (some ⟨g, 0, none⟩) 24 (vn .u8 bl)) => ref_Discs d (some ⟨g, 0, none⟩) 24 bl z W hr hbl h3 h6 hz
  obtain ⟨r, hr⟩ : ∃ r, rowsD d = r := ⟨_, rfl⟩
  rw [hr] at r1 r2 hvis hdisc
  simp only [hr] at c1 c4
  obtain ⟨m, hm⟩ : ∃ m, outs.length = m := ⟨_, rfl⟩
  have c1 := c1.mono (R' := fun e w' => ∃ A1 c1 b0 hb gr, e = .returned (.tuple #[.slice A1 m c1, .slice (some ⟨b0, 0, none⟩) d d, .int .i64 0]) ∧ OwnK w' w.heap.size 103 2 (.slice A1 m c1) (outs.map dnC) ∧ m ≤ 100 ∧ TabD w' b0 hb r d d gr (.int .i64 z) f ∧ Below w.heap.size w w') (by
    rintro e w' ⟨A1, n1, k1, b0, hb, gr, rfl, ho, hn1, ht, hb1⟩
    obtain rfl : n1 = m := by rw [← hm, ← ho.reads.len, List.length_map]
    exact ⟨A1, k1, b0, hb, gr, rfl, ho, hn1, ht, hb1⟩)
  have c3 := fun (W : World) (hW : Below w.heap.size w W) => (c3 W hW).mono (R' := fun e w' => ∃ A1 c1 g, e = .returned (.tuple #[.slice A1 m c1, .agg #[.slice (some ⟨g, 0, none⟩) 24 24, .int .i64 z]]) ∧ OwnK w' W.heap.size 103 2 (.slice A1 m c1) (outs.map dnC) ∧ Own w' W.heap.size 5 (.slice (some ⟨g, 0, none⟩) 24 24) (vn .u8 bl) ∧ Below W.heap.size W w') (by
    rintro e w' ⟨A1, n1, k1, g, rfl, ho, hn1, hg, hb1⟩
    obtain rfl : n1 = m := by rw [← hm, ← ho.reads.len, List.length_map]
    exact ⟨A1, k1, g, rfl, ho, hg, hb1⟩)
  have HVIS := Lib.hid hvis
  have HDISC := Lib.hid hdisc
  clear h hl s1 s2 sim hbl hz hvis hdisc hr hm
  go_enter Try.func8, Try.ntmps8
  go_wp2_with (first
    | (go_at_call 24; refine c1.mono ?_; clear c1; rintro e w1 ⟨A1, k1, b0, hb, gr, rfl, ho1, hn1, ht1, hb1⟩)
    | (go_at_call 25; refine (c2 _).mono ?_; clear c2; rintro e w' ⟨rfl, rfl⟩)
    | (go_at_call 26; refine (c3 _ hb1).mono ?_; clear c3; rintro e w2 ⟨A2, k2, g2, rfl, ho2, hg2, hb2⟩)
    | (go_at_call 27; refine (c4 g2 _ (hg2.alloc _).reads).mono ?_; clear c4; rintro e w3 ⟨b3, gr3, F, rfl, ht3, hF, hb3⟩; have q1 := (OwnK.below (OwnK.alloc (ho1.below hb2 (Nat.le_refl _)) _) hb3 (Nat.le_refl _)).reads; have q2 := (OwnK.below (OwnK.alloc ho2 _) hb3 (Nat.le_refl _)).reads)
    | (go_at_call 28; refine (ref_Dones A1 A2 m k1 k2 outs w3 q1 q2 hn1).mono ?_; rintro e w4 ⟨rfl, q, rfl⟩))
  have hT1 := TabD.same (TabD.same (TabD.same ht1 hb2) ((Below.refl _ _).alloc (Nat.le_refl _) _)) hb3
  have hBB : Below w.heap.size w w3 := (hb1.trans (hb2.mono hb1.size)).trans (Below.trans ((Below.refl _ w2).alloc (Nat.le_trans hb1.size hb2.size) _) (hb3.mono (by have h1 := hb1.size; have h2 := hb2.size; simp; omega)))
  have hE : Hid (∀ i, i < d → cellD f r i = cellD F r i) := fun i hi => cellD_same (fun j hj => by rw [HVIS.out i j hi hj, hF.out i j hi hj, HDISC.out i j hi hj])
  have HT1 := Lib.hid hT1
  have HT3 := Lib.hid ht3
  have HBB := Lib.hid hBB
  clear hT1 ht3 hBB q1 q2 ho1 ho2 hg2 ht1 hb1 hb2 hb3 hF
  go_loopw [12] (fun iv wr => ∃ k m : Nat, k ≤ d ∧ iv = .int .i64 (k : Int) ∧ wr = w3.drewN m) (fun iv _ => d - (intOf iv).toNat)
  case atStart => exact ⟨0, q, Nat.zero_le _, rfl, rfl⟩
  case round =>
    obtain ⟨k, m2, hk, rfl, rfl⟩ := hrel
    by_cases hlt : k < d
    · have e1 := (HT1.out.row k hlt).reads
      have e2 := (HT3.out.row k hlt).reads
      have d1 := HT1.out.rowAt (i := k) hlt hlt
      have d2 := HT3.out.rowAt (i := k) hlt hlt
      rw [← hE.out k hlt] at e2
      have cb := fun (t : Nat) => ref_Bytes _ _ r r r r _ _ true (w3.drewN t) (e1.drewN t) (e2.drewN t) (by unfold maxLen; omega) (by unfold Hid; simp)
      have i0 : (0 : Int) ≤ (k : Int) := by omega
      have i1 : (k : Int) < (d : Int) := by omega
      clear e1 e2
      go_wp2
      go_quiet ((go_at_call 14; first | exact quietQ (cb _) | exact quietQ2 (cb _)))
      go_wp2
      go_roundw
      case rel => exact ⟨k + 1, m2 + nq, by omega, by go_num, by first | rfl | rw [World.drewN_drewN]⟩
      case measure => simp [intOf] <;> omega
    · obtain rfl : d = k := by omega
      go_wp2
      go_ret
      exact ⟨rfl, below_drewN HBB.out _⟩
theorem StripePlays_walk (d : Int) (A : Option Addr) (n c : Nat) (zss : List (List Int)) (w : World) (_ : (Lit.int .i64 d).wf = true) (h : ReadsK w w.heap.size 3 A n (zss.map fun zs => List.zipWith Value.int [.i64, .i64, .u8] zs))
    (wf : ∀ zs ∈ zss, zs.length = [IntKind.i64, IntKind.i64, IntKind.u8].length ∧ ∀ (j : Nat) (z : Int) (k : IntKind), zs[j]? = some z → [IntKind.i64, IntKind.i64, IntKind.u8][j]? = some k → (Lit.int k z).wf = true) (hm : n * 24 ≤ reachBytes) :
    Calls Try.prog 8 #[.int .i64 d, .slice A n c] w (LawTrue w) := by
  by_cases hd : d < 3 ∨ 6 < d
  · exact stripe_law_err d A n c w 4 (.inl ⟨hd, rfl⟩)
  · by_cases hn : 100 < n
    · exact stripe_law_err d A n c w 1 (.inr ⟨⟨by omega, by omega, hn⟩, rfl⟩)
    · obtain ⟨h1, h2⟩ := mvOf_is zss wf
      rw [h1] at h
      obtain ⟨D, rfl⟩ := Int.eq_ofNat_of_zero_le (show 0 ≤ d by omega)
      exact stripe_law D A n c (mvOf zss) w h h2 (by omega) (by omega) (by omega)
end Go.Proofs.Ytglcljlafioleaa

/-
  points.Fix.
-/
import Derived.Test.YtpbffbhebdcpbaaPfe
import Derived.Test.YtpbffbhebdcpbaaPfc
import Derived.Test.YtpbffbhebdcpbaaFieldc
import Derived.Test.YtpbffbhebdcpbaaPointp
import Derived.Test.YtpbffbhebdcpbaaOff
import Derived.RangeFuncBox
set_option linter.unusedVariables false
namespace Go.Proofs.Ytpbffbhebdcpbaa
open Go.RowKit Go.Shelf
attribute [local go_sem] Oper.semAt_some

set_option maxRecDepth 100000 in
set_option maxHeartbeats 800000 in
theorem points_Fix_wrong (k z : Int) (A : Option Addr) (n c : Nat) (w : World) (hn : n ≤ maxLen) (hz : Hid (wrongZ k n = z)) (h0 : z ≠ 0) :
    Calls Try.prog 16 #[.int .i64 k, .slice A n c] w (RetB w (.tuple #[.slice none 0 0, .int .i64 z])) := by
  have cw := fun W => points_wrong k z n W hn hz
  have b1 : (z != 0) = true := by simpa using h0
  go_enter Try.func16, Try.ntmps16
  go_wp2_with (go_at_call 29; refine (cw _).mono ?_; rintro e w1 ⟨rfl, rfl⟩)
  refine bodyPost_ret (v := .tuple #[.slice none 0 0, .int .i64 z]) (by simp [results, Try.f16, go_sem]) rfl ⟨rfl, ?_⟩
  exact (((((Below.refl _ w).alloc (Nat.le_refl _) _).alloc (by simp) _).alloc (by simp; omega) _).alloc (by simp; omega) _).alloc (by simp; omega) _
set_option maxRecDepth 100000 in
set_option maxHeartbeats 800000 in
theorem points_Fix_field (k z : Int) (A : Option Addr) (n c : Nat) (l : List Int) (w : World) (h : Reads w w.heap.size A n (vi .i64 l)) (hn : n ≤ maxLen) (hz : Hid (wrongZ k n = 0)) (hf : Hid (fldErr l = z)) (h0 : z ≠ 0) :
    Calls Try.prog 16 #[.int .i64 k, .slice A n c] w (RetB w (.tuple #[.slice none 0 0, .int .i64 z])) := by
  have cw := fun W => points_wrong k 0 n W hn hz
  have b1 : (z != 0) = true := by simpa using h0
  have hb : Below w.heap.size w (((((w.alloc (.cells #[.int .i64 k] 3)).alloc (.cells #[.slice A n c] 35)).alloc (.cells #[.slice none 0 0] 35)).alloc (.cells #[.int .i64 0] 23)).alloc (.cells #[.int .i64 (n : Int)] 3)) := (((((Below.refl _ w).alloc (Nat.le_refl _) _).alloc (by simp) _).alloc (by simp; omega) _).alloc (by simp; omega) _).alloc (by simp; omega) _
  have cf := field_Check A n c l z _ ((h.below hb).more hb.size) hn hf
  have b4 := ((Boxed.new ((w.alloc (.cells #[.int .i64 k] 3)).alloc (.cells #[.slice A n c] 35)) 35 (.slice none 0 0)).alloc (.cells #[.int .i64 0] 23)).alloc (.cells #[.int .i64 (n : Int)] 3)
  have b5 := (Boxed.new (((w.alloc (.cells #[.int .i64 k] 3)).alloc (.cells #[.slice A n c] 35)).alloc (.cells #[.slice none 0 0] 35)) 23 (.int .i64 0)).alloc (.cells #[.int .i64 (n : Int)] 3)
  simp only [World.size_alloc] at b4 b5
  have b4c := b4.cell
  have b4f := b4.frozen
  have b5c := b5.cell
  have b5f := b5.frozen
  clear h b4 b5
  go_enter Try.func16, Try.ntmps16
  go_wp2_with (first | (go_at_call 29; refine (cw _).mono ?_; rintro e w1 ⟨rfl, rfl⟩) | (go_at_call 30; refine cf.mono ?_; rintro e w1 ⟨rfl, m1, rfl⟩))
  refine bodyPost_ret (v := .tuple #[.slice none 0 0, .int .i64 z]) (by simp [results, Try.f16, go_sem, b4c, b5c]) rfl ⟨rfl, ?_⟩
  exact ((below_drewN hb m1).setCell (p := ⟨w.heap.size + 1 + 1, 0, none⟩) (by show w.heap.size ≤ w.heap.size + 1 + 1; omega) _).setCell (p := ⟨w.heap.size + 1 + 1 + 1, 0, none⟩) (by show w.heap.size ≤ w.heap.size + 1 + 1 + 1; omega) _
theorem putObj_below {B l : Nat} (hl : B ≤ l) (W : World) (o' : Obj) : Below B W (W.putObj l o') := ⟨rfl, rfl, rfl, by simp, fun b hb => World.putObj_heap_other (by omega)⟩
theorem cell_putObj {W : World} {l : Nat} {o o' : Obj} {p : Addr} {u : Value} (h : W.cell? p = some u) (ho : W.heap[l]? = some o) (hc : o.isCells = false) : (W.putObj l o').cell? p = some u := by
  have hne : p.block ≠ l := by
    intro e
    unfold World.cell? at h
    rw [e, ho] at h
    cases o <;> simp_all [Obj.isCells]
  unfold World.cell? at h ⊢
  rw [World.putObj_heap_other hne]; exact h
theorem reads_putObj {W : World} {l n : Nat} {o o' : Obj} {A : Option Addr} {xs : List Value} (h : Reads W W.heap.size A n xs) (ho : W.heap[l]? = some o) (hc : o.isCells = false) : Reads (W.putObj l o') (W.putObj l o').heap.size A n xs := by
  refine ⟨h.len, fun hn => ?_⟩
  obtain ⟨ad, e, hb, hcs⟩ := h.cells hn
  exact ⟨ad, e, by simpa using hb, fun j u hu => cell_putObj (hcs j u hu) ho hc⟩
theorem own_putObj {W : World} {l base : Nat} {o o' : Obj} {E : TypeId} {v : Value} {xs : List Value} (h : Own W base E v xs) (ho : W.heap[l]? = some o) (hc : o.isCells = false) : Own (W.putObj l o') base E v xs :=
  h.heapAt fun g hg => by
    obtain ⟨cur, hcur⟩ := h.ty hg
    refine World.putObj_heap_other ?_
    intro e
    subst e
    rw [hcur] at ho; injection ho with ho; subst ho; cases hc
theorem KeepsOthers.of_below {A B : World} (h : Below A.heap.size A B) : KeepsOthers A B := ⟨h.size, fun k o hk _ => (h.block k (Array.getElem?_eq_some_iff.1 hk).1).trans hk⟩
/-- what Fix answers, in memory -/
def FxQ (w : World) (l : List Int) (n k : Nat) (e : Ending) (w' : World) : Prop :=
  (∃ A n1 c1 d, e = .returned (.tuple #[.slice A n1 c1, .int .i64 0]) ∧ FixY l n k d ∧ Own w' w.heap.size 3 (.slice A n1 c1) (vn .i64 d) ∧ Below w.heap.size w w') ∨
  (e = .returned (.tuple #[.slice none 0 0, .int .i64 5]) ∧ FixN l n k ∧ Below w.heap.size w w')
set_option maxRecDepth 100000 in
set_option maxHeartbeats 1000000 in
theorem points_Fix (k : Nat) (A : Option Addr) (n c : Nat) (l : List Int) (w : World) (h : Reads w w.heap.size A n (vi .i64 l)) (hn : n ≤ 9) (hk1 : 1 ≤ k) (hkn : k ≤ n) (hl : ∀ j, j < n → 0 ≤ l.getD j 0 ∧ l.getD j 0 < 16) (hfe : fldErr l = 0) :
    Calls Try.prog 16 #[.int .i64 (k : Int), .slice A n c] w (FxQ w l n k) := by
  have cw := fun W => points_wrong (k : Int) 0 n W (by unfold maxLen; omega) (by unfold Hid wrongZ; rw [if_neg (by omega), if_neg (by omega)])
  obtain ⟨v5, hv5⟩ : ∃ v5, v5 = ((((w.alloc (.cells #[.int .i64 (k : Int)] 3)).alloc (.cells #[.slice A n c] 35)).alloc (.cells #[.slice none 0 0] 35)).alloc (.cells #[.int .i64 0] 23)).alloc (.cells #[.int .i64 (n : Int)] 3) := ⟨_, rfl⟩
  have hb5 : Below w.heap.size w v5 := by rw [hv5]; exact (((((Below.refl _ w).alloc (Nat.le_refl _) _).alloc (by simp) _).alloc (by simp; omega) _).alloc (by simp; omega) _).alloc (by simp; omega) _
  have hs5 : v5.heap.size = w.heap.size + 5 := by rw [hv5]; simp
  have cf := field_Check A n c l 0 v5 ((h.below hb5).more hb5.size) (by unfold maxLen; omega) hfe
  have bK := ((((Boxed.new w 3 (.int .i64 (k : Int))).alloc (.cells #[.slice A n c] 35)).alloc (.cells #[.slice none 0 0] 35)).alloc (.cells #[.int .i64 0] 23)).alloc (.cells #[.int .i64 (n : Int)] 3)
  have bL := (((Boxed.new (w.alloc (.cells #[.int .i64 (k : Int)] 3)) 35 (.slice A n c)).alloc (.cells #[.slice none 0 0] 35)).alloc (.cells #[.int .i64 0] 23)).alloc (.cells #[.int .i64 (n : Int)] 3)
  have b4 := ((Boxed.new ((w.alloc (.cells #[.int .i64 (k : Int)] 3)).alloc (.cells #[.slice A n c] 35)) 35 (.slice none 0 0)).alloc (.cells #[.int .i64 0] 23)).alloc (.cells #[.int .i64 (n : Int)] 3)
  have b5 := (Boxed.new (((w.alloc (.cells #[.int .i64 (k : Int)] 3)).alloc (.cells #[.slice A n c] 35)).alloc (.cells #[.slice none 0 0] 35)) 23 (.int .i64 0)).alloc (.cells #[.int .i64 (n : Int)] 3)
  have bN := Boxed.new ((((w.alloc (.cells #[.int .i64 (k : Int)] 3)).alloc (.cells #[.slice A n c] 35)).alloc (.cells #[.slice none 0 0] 35)).alloc (.cells #[.int .i64 0] 23)) 3 (.int .i64 (n : Int))
  simp only [World.size_alloc] at bK bL b4 b5 bN
  rw [← hv5] at bK bL b4 b5 bN
  have kc := bK.cell
  have lc := bL.cell
  have nc := bN.cell
  refine (callsIn_wide (n := 4)).1 ?_
  refine callsIn_of_wp_marks Try.func16 rfl trivial ?_ rfl
  simp only [Try.ntmps16, List.size_toArray, List.length_cons, List.length_nil, Nat.reduceAdd, Nat.reduceSub, Array.replicate_succ, Array.replicate_zero, List.push_toArray, List.append_toArray, List.nil_append, List.cons_append]
  rw [hv5] at cf kc lc nc
  gi_wp2_with (first
    | (refine ⟨trivial, ?_⟩; gi_at_call 29; refine (callsIn_wide.2 (cw _)).mono ?_; rintro e w1 ⟨rfl, rfl⟩)
    | (refine ⟨trivial, ?_⟩; gi_at_call 30; refine (callsIn_wide.2 cf).mono ?_; clear cf; rintro e w1 ⟨rfl, m1, rfl⟩)
    | (refine ⟨trivial, ?_⟩; gi_at_call 31; refine (callsIn_wide.2 (points_each n k _)).mono ?_; rintro e w1 ⟨rfl, rfl⟩))
  rw [← hv5] at kc lc nc ⊢
  have hwb := hb5.size
  have bKL := (show Boxed (v5.drewN m1) _ _ _ from bK).alloc (.cells #[.int .i64 (n : Int)] 3) |>.alloc (.cells #[.int .i64 (k : Int)] 3)
  have bLL := (show Boxed (v5.drewN m1) _ _ _ from bL).alloc (.cells #[.int .i64 (n : Int)] 3) |>.alloc (.cells #[.int .i64 (k : Int)] 3)
  have b4L := (show Boxed (v5.drewN m1) _ _ _ from b4).alloc (.cells #[.int .i64 (n : Int)] 3) |>.alloc (.cells #[.int .i64 (k : Int)] 3)
  have b5L := (show Boxed (v5.drewN m1) _ _ _ from b5).alloc (.cells #[.int .i64 (n : Int)] 3) |>.alloc (.cells #[.int .i64 (k : Int)] 3)
  have bNL := (show Boxed (v5.drewN m1) _ _ _ from bN).alloc (.cells #[.int .i64 (n : Int)] 3) |>.alloc (.cells #[.int .i64 (k : Int)] 3)
  have bE1 := (Boxed.new (v5.drewN m1) 3 (.int .i64 (n : Int))).alloc (.cells #[.int .i64 (k : Int)] 3)
  have bE2 := Boxed.new ((v5.drewN m1).alloc (.cells #[.int .i64 (n : Int)] 3)) 3 (.int .i64 (k : Int))
  have hbL : Below w.heap.size w (((v5.drewN m1).alloc (.cells #[.int .i64 (n : Int)] 3)).alloc (.cells #[.int .i64 (k : Int)] 3)) := ((below_drewN hb5 m1).alloc (by show w.heap.size ≤ v5.heap.size; omega) _).alloc (by rw [World.size_alloc]; show w.heap.size ≤ v5.heap.size + 1; omega) _
  have hsL : (((v5.drewN m1).alloc (.cells #[.int .i64 (n : Int)] 3)).alloc (.cells #[.int .i64 (k : Int)] 3)).heap.size = w.heap.size + 7 := by
    rw [World.size_alloc, World.size_alloc]; show v5.heap.size + 1 + 1 = _; omega
  rw [World.size_alloc] at bE2
  have e51 : (v5.drewN m1).heap.size = w.heap.size + 1 + 1 + 1 + 1 + 1 := by show v5.heap.size = _; omega
  rw [e51] at bE1 bE2
  generalize (((v5.drewN m1).alloc (.cells #[.int .i64 (n : Int)] 3)).alloc (.cells #[.int .i64 (k : Int)] 3)) = wL at *
  have kcL := bKL.cell
  have lcL := bLL.cell
  have r4c := b4L.cell
  have r4f := b4L.frozen
  have r5c := b5L.cell
  have r5f := b5L.frozen
  have ncL := bNL.cell
  have e1c := bE1.cell
  have e2c := bE2.cell
  clear bK bL b4 b5 bN bKL bLL b4L b5L bNL bE1 bE2 kc lc nc hb5 hv5 e51
  refine wpIn_rangeFunc_pre (P := Try.prog) rfl (by omega) (gf := 49) (lb := #[.pointer (some ⟨w.heap.size + 1 + 1 + 1 + 1 + 1 + 1, 0, none⟩), .pointer (some ⟨w.heap.size + 1 + 1 + 1 + 1 + 1, 0, none⟩)]) rfl trivial (enters_of Try.func49 (by kernel_rfl) rfl)
    (encs := encP k) (PreP n k) (S := fun xs => xs.map (fun x => x.1) = choices n k) (Sp := fun _ => True) ?seq ?pre (fun _ => rfl)
    (fun pre W => Below wL.heap.size wL W ∧ Hid (∀ x ∈ pre, ¬ GoodD l n k (lagL (lvI l) x.1 x.1)))
    (fun cc _ W => cc = .ret ∧ ∃ A6 c6 d, FixY l n k d ∧ W.cell? ⟨w.heap.size + 1 + 1, 0, none⟩ = some (.slice A6 k c6) ∧ W.cell? ⟨w.heap.size + 1 + 1 + 1, 0, none⟩ = some (.int .i64 0) ∧ Own W w.heap.size 3 (.slice A6 k c6) (vn .i64 d) ∧ Below w.heap.size w W)
    (fun pre A B h hst => ⟨h.1.trans hst.below, h.2⟩)
    (fun pre A l' o o' h hl' ho hc => ⟨h.1.trans (putObj_below hl' A o'), h.2⟩)
    ?ixp ⟨Below.refl _ _, fun x hx => (by cases hx)⟩
    (fun x => { tmps := #[.int .i64 (k : Int), .slice A n c, .pointer (some ⟨w.heap.size, 0, none⟩), .pointer (some ⟨w.heap.size + 1, 0, none⟩), .pointer (some ⟨w.heap.size + 1 + 1, 0, none⟩), .pointer (some ⟨w.heap.size + 1 + 1 + 1, 0, none⟩), .pointer (some ⟨w.heap.size + 1 + 1 + 1 + 1, 0, none⟩), .int .i64 0, .int .i64 0, .slice x.2.1 k x.2.2, undef, undef, undef, undef, .slice A n c, .int .i64 (n : Int), .int .i64 (k : Int), .int .i64 (n : Int), .int .i64 0, .int .i64 0, .bool false, undef, .slice A n c, .int .i64 0, .int .i64 0, .bool false, undef, .int .i64 (n : Int), .int .i64 (k : Int), .func (.func 49) #[] #[.pointer (some ⟨w.heap.size + 1 + 1 + 1 + 1 + 1 + 1, 0, none⟩), .pointer (some ⟨w.heap.size + 1 + 1 + 1 + 1 + 1, 0, none⟩)], .slice x.2.1 k x.2.2, undef, undef, undef, undef, undef, undef, undef, undef, undef, undef, undef, undef, undef, undef, undef, undef, undef, undef, undef, undef, undef, undef, undef, undef, undef, undef, undef, undef], defers := [] }) ?assign ?body ?done ?stop
  case pre => exact fun x W l' o o' h ho hc => ⟨h.1, reads_putObj h.2 ho hc⟩
  case ixp =>
    rintro cc pre B l' o o' ⟨hcc, A6, c6, d, h1, h2, h3, h4, h5⟩ hl' ho hc
    exact ⟨hcc, A6, c6, d, h1, cell_putObj h2 ho hc, cell_putObj h3 ho hc, own_putObj h4 ho hc, h5.trans (putObj_below (by omega) B o')⟩
  case assign =>
    intro l' x W K hK
    unfold encP
    gi_wp2
    exact hK
  case seq =>
    intro l' J Jx W hb hs hJ hY h0
    refine callsIn_wide.2 ((each_1 n k l' (w.heap.size + 1 + 1 + 1 + 1 + 1 + 1) (w.heap.size + 1 + 1 + 1 + 1 + 1) hn (fun ps W => ∃ pre : List (List Nat × Option Addr × Nat), pre.map (fun x => x.1) = ps ∧ J pre W) (fun _ W => ∃ pre, Jx pre W) W (by omega) (by omega)
      ((hb.cell (by show w.heap.size + 1 + 1 + 1 + 1 + 1 + 1 < _; omega)).trans e2c) ((hb.cell (by show w.heap.size + 1 + 1 + 1 + 1 + 1 < _; omega)).trans e1c) ?_ ?_ ⟨[], rfl, h0⟩).mono ?_)
    · rintro ps A B ⟨pre, hp, hj⟩ hst
      exact ⟨pre, hp, hJ _ _ _ hj hst⟩
    · rintro ps x W1 ⟨pre, hp, hj⟩ hx
      refine YieldAt.mono (yieldAny rfl 2 (hY pre x W1 hj hx)) ?_
      rintro e W2 (⟨h1, h2, h3⟩ | ⟨h1, h2⟩)
      · exact .inl ⟨h1, ⟨pre ++ [x], by rw [List.map_append, hp]; rfl, h2⟩, h3⟩
      · exact .inr ⟨h1, _, h2⟩
    · rintro e W2 ⟨h1, (⟨pre, hp, hj⟩ | ⟨_, pre, hx⟩)⟩
      · exact ⟨h1, .inl ⟨pre, hp, hj⟩⟩
      · exact ⟨h1, .inr ⟨pre, trivial, hx⟩⟩
  case body =>
    rintro l' pre ⟨P, Ap, cp⟩ W ⟨hB, hno⟩ ⟨hinc, hrp⟩
    dsimp only at hinc hrp ⊢
    have hbW : Below w.heap.size w W := hbL.trans (hB.mono hbL.size)
    have hsW : wL.heap.size ≤ W.heap.size := hB.size
    have lcW := (hB.cell (p := ⟨w.heap.size + 1, 0, none⟩) (by show w.heap.size + 1 < _; omega)).trans lcL
    have ncW := (hB.cell (p := ⟨w.heap.size + 1 + 1 + 1 + 1, 0, none⟩) (by show w.heap.size + 1 + 1 + 1 + 1 < _; omega)).trans ncL
    have kcW := (hB.cell (p := ⟨w.heap.size, 0, none⟩) (by show w.heap.size < _; omega)).trans kcL
    obtain ⟨hnl, hd16, hdl⟩ := both_same hinc hn hl
    have cT := points_through A Ap n k c cp l P W ((h.below hbW).more hbW.size) hrp hn (by omega) hinc.lt hinc.nodup (fun j hj => hl j (hinc.lt j hj))
    have HY : Hid (GoodD l n k (lagL (lvI l) P P) → FixY l n k (lagL (lvI l) P P)) := fun hg => ⟨P, hinc, rfl, hg⟩
    have HNO : Hid (¬ GoodD l n k (lagL (lvI l) P P) → ∀ x ∈ pre ++ [(P, Ap, cp)], ¬ GoodD l n k (lagL (lvI l) x.1 x.1)) := fun hg x hx => by
      rcases List.mem_append.1 hx with hx | hx
      · exact hno.out x hx
      · rw [List.mem_singleton.1 hx]; exact hg
    have HG : Hid (GoodD l n k (lagL (lvI l) P P) ↔ 2 * cntO (disN l (lagL (lvI l) P P)) n ≤ n - k) := Iff.rfl
    generalize lagL (lvI l) P P = d at *
    have HDL := Lib.hid hdl
    have HB := Lib.hid hB
    have HBW := Lib.hid hbW
    have HD16 := Lib.hid hd16
    have HRL := Lib.hid h
    have kN : ((k : Nat) : Int) ≤ (n : Int) := by omega
    have k0 : (0 : Int) ≤ (k : Int) := by omega
    have n9 : (n : Int) ≤ 9 := by omega
    clear hnl hdl hB hbW hno hinc hrp hd16
    gi_wp2_with (first
      | (refine ⟨trivial, ?_⟩; gi_at_call 32; refine (CallsIn.inRound l' (callsIn_wide.2 cT)).mono ?_; clear cT; rintro e w6 ⟨A6, n6, c6, rfl, ho6, hb6⟩; obtain rfl : k = n6 := (by have := ho6.reads.nat_len; rw [HDL.out] at this; exact this); have hs6 := hb6.size; have nc6 := (hb6.cell (p := ⟨w.heap.size + 1 + 1 + 1 + 1, 0, none⟩) (by show w.heap.size + 1 + 1 + 1 + 1 < _; omega)).trans ncW; have cP := points_put n A6 k c6 d w6 hn ho6.reads (by omega) HD16.out)
      | (refine ⟨trivial, ?_⟩; gi_at_call 33; refine (CallsIn.inRound l' (callsIn_wide.2 cP)).mono ?_; clear cP; rintro e w7 ⟨A7, n7, c7, rfl, ho7, hb7⟩; obtain rfl : n = n7 := (by have := ho7.len; rw [ptL_len] at this; exact this); have hB7 : Below W.heap.size W w7 := hb6.trans (hb7.mono hs6)))
    have HB7 : Hid (Below wL.heap.size wL w7) := HB.out.trans (hB7.mono hsW)
    have HBW7 : Hid (Below w.heap.size w w7) := HBW.out.trans (hB7.mono (Nat.le_trans HBW.out.size (Nat.le_refl _)))
    have hs7 : wL.heap.size ≤ w7.heap.size := HB7.out.size
    have lc7 := (HB7.out.cell (p := ⟨w.heap.size + 1, 0, none⟩) (by show w.heap.size + 1 < _; omega)).trans lcL
    have nc7 := (HB7.out.cell (p := ⟨w.heap.size + 1 + 1 + 1 + 1, 0, none⟩) (by show w.heap.size + 1 + 1 + 1 + 1 < _; omega)).trans ncL
    have kc7 := (HB7.out.cell (p := ⟨w.heap.size, 0, none⟩) (by show w.heap.size < _; omega)).trans kcL
    have r4c7 := (HB7.out.cell (p := ⟨w.heap.size + 1 + 1, 0, none⟩) (by show w.heap.size + 1 + 1 < _; omega)).trans r4c
    have r5c7 := (HB7.out.cell (p := ⟨w.heap.size + 1 + 1 + 1, 0, none⟩) (by show w.heap.size + 1 + 1 + 1 < _; omega)).trans r5c
    have r4f7 := (HB7.out.frozen (p := ⟨w.heap.size + 1 + 1, 0, none⟩) (by show w.heap.size + 1 + 1 < _; omega)).trans r4f
    have r5f7 := (HB7.out.frozen (p := ⟨w.heap.size + 1 + 1 + 1, 0, none⟩) (by show w.heap.size + 1 + 1 + 1 < _; omega)).trans r5f
    have HO6 : Hid (Own w7 W.heap.size 3 (.slice A6 k c6) (vn .i64 d)) := ho6.below hb7 (Nat.le_refl _)
    have HR7 := Lib.hid ho7.reads
    have HL7 : Hid (Reads w7 w.heap.size A n (vi .i64 l)) := HRL.out.below HBW7.out
    have HKW : Hid (Below W.heap.size W w7) := hB7
    clear ho6 hb6 ho7 hb7 hB7 lcW ncW kcW nc6
    gi_loopw [38, 11, 12, 13] (fun jv ov _ _ wi => ∃ j : Nat, j ≤ n ∧ jv = .int .i64 (j : Int) ∧ ov = .int .i64 ((cntO (disN l d) j : Nat) : Int) ∧ wi = w7) (fun jv _ _ _ _ => n - (intOf jv).toNat)
    case atStart => exact ⟨0, Nat.zero_le _, rfl, rfl, rfl⟩
    case round =>
      obtain ⟨j, hj, rfl, rfl, hwi⟩ := hrel
      obtain rfl : w7 = wr := hwi.symm
      have hcl := cntO_le (disN l d) j
      by_cases hlt : j < n
      · have j1 : (j : Int) < (n : Int) := by omega
        have j0 : (0 : Int) ≤ (j : Int) := by omega
        obtain ⟨ad7, x, e, _, hx, hcx⟩ := HR7.out.nat_at (k := j) hlt
        subst e
        rw [ptL_at d hlt] at hx
        injection hx with hx
        obtain ⟨ad, v, e, _, hv, hcv⟩ := HL7.out.int_at (k := j) hlt
        subst e
        have hvD : l.getD j 0 = v := by rw [List.getD_eq_getElem?_getD, hv]; rfl
        have hN : cntO (disN l d) (j + 1) = cntO (disN l d) j + if ((x : Int) != v) then 1 else 0 := by
          rw [cntO]; unfold disN; rw [hvD, hx]
        have HN := Lib.hid hN
        clear hN hx hv hvD
        generalize cntO (disN l d) j = o at *
        cases hq : ((x : Int) != v)
        · rw [hq] at HN
          have HN2 : Hid (cntO (disN l d) (j + 1) = o) := by unfold Hid; rw [HN.out]; simp
          gi_wp2
          go_roundw
          case rel => exact ⟨j + 1, by omega, by go_num, by rw [HN2.out], by trivial⟩
          case measure => simp [intOf] <;> omega
        · rw [hq] at HN
          have HN2 : Hid (cntO (disN l d) (j + 1) = o + 1) := by unfold Hid; rw [HN.out]; simp
          gi_wp2
          go_roundw
          case rel => exact ⟨j + 1, by omega, by go_num, by rw [HN2.out]; go_num, by trivial⟩
          case measure => simp [intOf] <;> omega
      · obtain rfl : n = j := by omega
        have j1 : ¬ (n : Int) < (n : Int) := by omega
        generalize hof : cntO (disN l d) n = o at *
        have o0 : (0 : Int) ≤ (o : Int) := by omega
        have o9 : (o : Int) ≤ 9 := by omega
        clear hof
        by_cases hgood : 2 * o ≤ n - k
        · have g1 : decide (2 * (o : Int) ≤ (n : Int) - (k : Int)) = true := decide_eq_true (by omega)
          have HFY : Hid (FixY l n k d) := HY.out (HG.out.2 hgood)
          clear hgood
          gi_wp2
          have ho8 := (HO6.out.setOther ⟨w.heap.size + 1 + 1, 0, none⟩ (.slice A6 k c6) (fun e => by have h9 : W.heap.size ≤ w.heap.size + 1 + 1 := (HO6.out.lt _ e).1; omega))
          have ho9 := ho8.setOther ⟨w.heap.size + 1 + 1 + 1, 0, none⟩ (.int .i64 0) (fun e => by have h9 : W.heap.size ≤ w.heap.size + 1 + 1 + 1 := (ho8.lt _ e).1; omega)
          exact ⟨((KeepsOthers.of_below HKW.out).trans ((KeepsOthers.setCell _ _ _).trans (KeepsOthers.setCell _ _ _))).from _, rfl, A6, c6, d, HFY.out,
            by rw [World.cell?_setCell_other _ _ _ _ (by simp)]; exact World.cell?_setCell_same' _ _ _ (by rw [r4c7]; rfl),
            World.cell?_setCell_same' _ _ _ (by rw [World.cell?_setCell_other _ _ _ _ (by simp), r5c7]; rfl),
            ho9.low (Nat.le_trans HBW.out.size (Nat.le_refl _)), (HBW7.out.setCell (p := ⟨w.heap.size + 1 + 1, 0, none⟩) (by show w.heap.size ≤ w.heap.size + 1 + 1; omega) _).setCell (p := ⟨w.heap.size + 1 + 1 + 1, 0, none⟩) (by show w.heap.size ≤ w.heap.size + 1 + 1 + 1; omega) _⟩
        · have g1 : decide (2 * (o : Int) ≤ (n : Int) - (k : Int)) = false := decide_eq_false (by omega)
          have HN := Lib.hid (HNO.out (fun hg => hgood (HG.out.1 hg)))
          clear hgood
          gi_wp2
          exact ⟨(KeepsOthers.of_below HKW.out).from _, KA.of_below HKW.out, by rw [← hsL]; exact HB7.out, fun a a1 b hx => HN.out (a, a1, b) hx⟩
  case done =>
    rintro D xs W hD hxs ⟨hB, hno⟩ hK
    have HN : Hid (FixN l n k) := fixN_choices fun P hP => by
      rw [← hxs] at hP
      obtain ⟨x, hx, rfl⟩ := List.mem_map.1 hP
      exact hno.out x hx
    have hbW : Below w.heap.size w W := hbL.trans (hB.mono hbL.size)
    have HBW := Lib.hid hbW
    have hsW : wL.heap.size ≤ W.heap.size := hB.size
    have r4w := (hB.cell (p := ⟨w.heap.size + 1 + 1, 0, none⟩) (by show w.heap.size + 1 + 1 < _; omega)).trans r4c
    have r5w := (hB.cell (p := ⟨w.heap.size + 1 + 1 + 1, 0, none⟩) (by show w.heap.size + 1 + 1 + 1 < _; omega)).trans r5c
    have r4fw := (hB.frozen (p := ⟨w.heap.size + 1 + 1, 0, none⟩) (by show w.heap.size + 1 + 1 < _; omega)).trans r4f
    have r5fw := (hB.frozen (p := ⟨w.heap.size + 1 + 1 + 1, 0, none⟩) (by show w.heap.size + 1 + 1 + 1 < _; omega)).trans r5f
    have HD : Hid (wL.heap.size ≤ D) := hD
    have HSL := Lib.hid hsL
    have HK := Lib.hid hK
    clear hxs hno hB hbW hK hD hsL
    gi_wp2
    have hD7 : w.heap.size + 7 ≤ D := by rw [← HSL.out]; exact HD.out
    have hK2 : ((W.setCell ⟨w.heap.size + 1 + 1, 0, none⟩ (.slice none 0 0)).setCell ⟨w.heap.size + 1 + 1 + 1, 0, none⟩ (.int .i64 5)).heap[D]? = some (.deferred (some [])) := by
      rw [Below.heap_setCell _ _ _ _ (by show D ≠ w.heap.size + 1 + 1 + 1; omega), Below.heap_setCell _ _ _ _ (by show D ≠ w.heap.size + 1 + 1; omega)]; exact HK.out
    have c4 : ((W.setCell ⟨w.heap.size + 1 + 1, 0, none⟩ (.slice none 0 0)).setCell ⟨w.heap.size + 1 + 1 + 1, 0, none⟩ (.int .i64 5)).cell? ⟨w.heap.size + 1 + 1, 0, none⟩ = some (.slice none 0 0) := by
      rw [World.cell?_setCell_other _ _ _ _ (by simp)]; exact World.cell?_setCell_same' _ _ _ (by rw [r4w]; rfl)
    have c5 : ((W.setCell ⟨w.heap.size + 1 + 1, 0, none⟩ (.slice none 0 0)).setCell ⟨w.heap.size + 1 + 1 + 1, 0, none⟩ (.int .i64 5)).cell? ⟨w.heap.size + 1 + 1 + 1, 0, none⟩ = some (.int .i64 5) :=
      World.cell?_setCell_same' _ _ _ (by rw [World.cell?_setCell_other _ _ _ _ (by simp), r5w]; rfl)
    have c4' := cell_putObj (o' := .deferred none) c4 hK2 rfl
    have c5' := cell_putObj (o' := .deferred none) c5 hK2 rfl
    have hbe := ((HBW.out.setCell (p := ⟨w.heap.size + 1 + 1, 0, none⟩) (by show w.heap.size ≤ w.heap.size + 1 + 1; omega) (.slice none 0 0)).setCell (p := ⟨w.heap.size + 1 + 1 + 1, 0, none⟩) (by show w.heap.size ≤ w.heap.size + 1 + 1 + 1; omega) (.int .i64 5)).trans (putObj_below (show w.heap.size ≤ D by omega) _ (.deferred none))
    refine ⟨by simp, .inl ⟨_, _, rfl, run_takeDeferred hK2, ?_⟩⟩
    refine ⟨.tuple #[.slice none 0 0, .int .i64 5], ?_, .inr ⟨rfl, HN.out, hbe⟩⟩
    clear c4 c5 hbe hK2
    generalize ((W.setCell ⟨w.heap.size + 1 + 1, 0, none⟩ (.slice none 0 0)).setCell ⟨w.heap.size + 1 + 1 + 1, 0, none⟩ (.int .i64 5)).putObj D (.deferred none) = W9 at *
    simp [results, Try.f16, go_sem, c4', c5']
  case stop =>
    rintro D cc pre W hD _ ⟨rfl, A6, c6, d, h1, h2, h3, h4, h5⟩ hK
    have HY := Lib.hid h1
    have HO := Lib.hid h4
    have HB := Lib.hid h5
    have HD : Hid (wL.heap.size ≤ D) := hD
    have HSL := Lib.hid hsL
    have HK := Lib.hid hK
    clear h1 h4 h5 hK hD hsL
    gi_wp2
    have hD7 : w.heap.size + 7 ≤ D := by rw [← HSL.out]; exact HD.out
    have c4' := cell_putObj (o' := .deferred none) h2 HK.out rfl
    have c5' := cell_putObj (o' := .deferred none) h3 HK.out rfl
    have ho' := own_putObj (o' := .deferred none) HO.out HK.out rfl
    have hbe := HB.out.trans (putObj_below (show w.heap.size ≤ D by omega) _ (.deferred none))
    refine ⟨by simp, .inl ⟨_, _, rfl, run_takeDeferred HK.out, ?_⟩⟩
    refine ⟨.tuple #[.slice A6 k c6, .int .i64 0], ?_, .inl ⟨A6, k, c6, d, rfl, HY.out, ho', hbe⟩⟩
    clear h2 h3 hbe ho'
    generalize W.putObj D (.deferred none) = W9 at *
    simp [results, Try.f16, go_sem, c4', c5']
end Go.Proofs.Ytpbffbhebdcpbaa

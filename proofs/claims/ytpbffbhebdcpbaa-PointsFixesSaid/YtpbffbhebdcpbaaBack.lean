import Derived.RangeFuncNested
import Derived.RangeFuncBound
import Derived.RangeFuncCalls
import Derived.RangeFuncLeaves
import Derived.RangeFuncBox
import Derived.Shelf.Abstract
import Derived.WalkKit
import Derived.OwnWalkIn
import Derived.TacticsInMore
import Derived.LoopNIn
import Derived.LoopIn
import Derived.Test.YtpbffbhebdcpbaaFieldp
set_option linter.unusedVariables false
namespace Go.Proofs.Ytpbffbhebdcpbaa
open Go.RowKit Go.Shelf
attribute [local go_sem] Oper.semAt_some

/-- what a round of the loop's body keeps: what lay below, and the box of the slice -/
def BK (n₀ Bs : Nat) (A B : World) : Prop := Below n₀ A B ∧ B.cell? ⟨Bs, 0, none⟩ = A.cell? ⟨Bs, 0, none⟩
theorem bkK_t {n₀ Bs : Nat} {A B C : World} (h : BK n₀ Bs A B) (k : BK n₀ Bs B C) : BK n₀ Bs A C := ⟨h.1.trans k.1, k.2.trans h.2⟩
theorem bkK_b {n₀ Bs : Nat} {w : World} (hn : n₀ ≤ w.heap.size) (hB : Bs < w.heap.size) (W : World) (l : Nat) (o o' : Obj) (hl : w.heap.size ≤ l) (h : W.heap[l]? = some o) (h1 : o.isCells = false) (h2 : o.isWalk = false) : BK n₀ Bs W (W.putObj l o') :=
  ⟨belowK_b hn W l o o' hl h h1 h2, (belowK_b (n₀ := Bs + 1) (w := w) (by omega) W l o o' hl h h1 h2).cell (p := ⟨Bs, 0, none⟩) (by simp)⟩
abbrev PF := Nat × Fin 16
def bkF (zs : List (Fin 16)) (k : Nat) : PF := (zs.length - 1 - k, zs[zs.length - 1 - k]?.getD 0)
def bkTo (zs : List (Fin 16)) (k : Nat) : List PF := (List.range k).map (bkF zs)
theorem bkTo_succ (zs : List (Fin 16)) (k : Nat) : bkTo zs (k + 1) = bkTo zs k ++ [bkF zs k] := by simp [bkTo, List.range_succ]
theorem bkTo_length (zs : List (Fin 16)) (k : Nat) : (bkTo zs k).length = k := by simp [bkTo]
theorem bkF_at {zs : List (Fin 16)} {k p : Nat} (h : k + p + 1 = zs.length) : bkF zs k = (p, zs[p]?.getD 0) := by
  unfold bkF; rw [show zs.length - 1 - k = p from by omega]

set_option maxRecDepth 100000 in
set_option maxHeartbeats 1000000 in
theorem back1_in (F : Fence) (n : Nat) (hf : F.fn 62) (hro : F.round = none) (hn : 1 ≤ n) (l Bs n₀ : Nat) (ad : Addr) (cap N : Nat) (zs : List (Fin 16)) (HN : Hid (zs.length = N)) (hreach : N ≤ 1000000) (hpos : 0 < N) (hb : ad.block < n₀) (J Jx : List PF → World → Prop)
    (hY : ∀ pre x W, J pre W → pre.length < N → YieldAt F (n - 1) Try.prog l #[.int .i64 (x.1 : Int), .int .i64 (x.2.val : Int)] W fun e W' =>
      (e = .returned (.bool true) ∧ J (pre ++ [x]) W' ∧ BK n₀ Bs W W') ∨ (e = .returned (.bool false) ∧ Jx (pre ++ [x]) W'))
    (W : World) (hBs : W.cell? ⟨Bs, 0, none⟩ = some (.slice (some ad) N cap)) (hc : ∀ j, j < N → W.cell? (ad.add j) = some (.int .i64 ((zs[j]?.getD 0).val : Int))) (h0 : J [] W) :
    CallsIn F n Try.prog 62 #[.func (.yield l) #[] #[], .pointer (some ⟨Bs, 0, none⟩)] W fun e W' => (∃ v, e = .returned v) ∧
      ((∃ ys, ys = bkTo zs N ∧ J ys W') ∨ (∃ pre, (∃ k, k ≤ N ∧ pre = bkTo zs k) ∧ Jx pre W')) := by
  refine callsIn_of_wp Try.func62 rfl hf ?_ hro
  simp only [Try.ntmps62, List.size_toArray, List.length_cons, List.length_nil, Nat.reduceAdd, Nat.reduceSub, Array.replicate_succ, Array.replicate_zero, List.push_toArray, List.append_toArray, List.nil_append, List.cons_append]
  gi_wp2
  gi_loopw [3] (fun i wr => ∃ k p : Nat, k + p = N ∧ i = .int .i64 ((p : Int) - 1) ∧ J (bkTo zs k) wr ∧ BK n₀ Bs W wr)
    (fun i _ => (intOf i + 1).toNat)
  case atStart => exact ⟨0, N, by omega, by go_num, h0, Below.refl _ _, rfl⟩
  case round =>
    obtain ⟨k, p, hk, rfl, hJs, hnx⟩ := hrel
    have hBs' : wr.cell? ⟨Bs, 0, none⟩ = some (.slice (some ad) N cap) := hnx.2.trans hBs
    cases p with
    | zero =>
      obtain rfl : k = N := by omega
      gi_wp2
      go_end0
      exact ⟨⟨_, rfl⟩, .inl ⟨_, rfl, hJs⟩⟩
    | succ p =>
      have hcx : wr.cell? (ad.add p) = some (.int .i64 ((zs[p]?.getD 0).val : Int)) := (hnx.1.cell (by rw [block_of_add]; exact hb)).trans (hc p (by omega))
      have hE : Hid (bkF zs k = (p, zs[p]?.getD 0)) := bkF_at (by rw [HN.out]; omega)
      obtain ⟨fn, tmps, assign, body, hy, hR⟩ := hY _ (p, zs[p]?.getD 0) wr hJs (by rw [bkTo_length]; omega)
      dsimp only at hy
      generalize zs[p]?.getD 0 = z at *
      have ep : ((p + 1 : Nat) : Int) - 1 = (p : Int) := by omega
      rw [ep]
      have i1 : (0 : Int) ≤ (p : Int) := Int.natCast_nonneg p
      have i2 : (p : Int) < (N : Int) := by omega
      gi_wp2
      refine hR.mono ?_
      rintro e W3 (⟨rfl, hJ3, hk3⟩ | ⟨rfl, hJx3⟩)
      · gi_wp2
        go_roundw
        case rel => exact ⟨k + 1, p, by omega, by first | go_num | rfl, by rw [bkTo_succ, hE.out]; exact hJ3, bkK_t hnx hk3⟩
        case measure => simp [intOf]
      · gi_wp2
        refine bodyPost_ret (results_none rfl _ _ _) rfl ?_
        exact ⟨⟨_, rfl⟩, .inr ⟨_, ⟨k + 1, by omega, by rw [bkTo_succ, hE.out]⟩, hJx3⟩⟩

set_option maxRecDepth 100000 in
set_option maxHeartbeats 1000000 in
theorem back1_nil_in (F : Fence) (n : Nat) (hf : F.fn 62) (hro : F.round = none) (l Bs : Nat) (A : Option Addr) (cap : Nat) (J : List PF → World → Prop) (W : World) (hBs : W.cell? ⟨Bs, 0, none⟩ = some (.slice A 0 cap)) (h0 : J [] W) :
    CallsIn F n Try.prog 62 #[.func (.yield l) #[] #[], .pointer (some ⟨Bs, 0, none⟩)] W fun e W' => (∃ v, e = .returned v) ∧ J [] W' := by
  refine callsIn_of_wp Try.func62 rfl hf ?_ hro
  simp only [Try.ntmps62, List.size_toArray, List.length_cons, List.length_nil, Nat.reduceAdd, Nat.reduceSub, Array.replicate_succ, Array.replicate_zero, List.push_toArray, List.append_toArray, List.nil_append, List.cons_append]
  gi_wp2
  gi_loopw [3] (fun i wr => i = .int .i64 (-1) ∧ J [] wr) (fun _ _ => 0)
  case atStart => exact ⟨rfl, h0⟩
  case round =>
    obtain ⟨rfl, hJs⟩ := hrel
    gi_wp2
    go_end0
    exact ⟨⟨_, rfl⟩, hJs⟩

set_option maxHeartbeats 1000000 in
theorem back_in (F : Fence) (n : Nat) (hf : F.fn 60) (hro : F.round = none) (A : Option Addr) (len cap : Nat) (w : World) :
    CallsIn F n Try.prog 60 #[.slice A len cap] w fun e w' => e = .returned (.func (.func 62) #[] #[.pointer (some ⟨w.heap.size, 0, none⟩)]) ∧ w' = w.alloc (.cells #[.slice A len cap] 35) := by
  refine callsIn_of_wp Try.func60 rfl hf ?_ hro
  simp only [Try.ntmps60, List.size_toArray, List.length_cons, List.length_nil, Nat.reduceAdd, Nat.reduceSub, Array.replicate_succ, Array.replicate_zero, List.push_toArray, List.append_toArray, List.nil_append, List.cons_append]
  gi_wp2
  go_ret
  exact ⟨rfl, rfl⟩

theorem back_stops (F : Fence) (n : Nat) (hf : F.fn 62) (hro : F.round = none) (hn : 1 ≤ n) (Bs n₀ B : Nat) (A : Option Addr) (len cap : Nat) (zs : List (Fin 16)) (hreach : zs.length ≤ 1000000) (w : World) (hBs : Bs < w.heap.size) (hn₀ : n₀ ≤ w.heap.size) (hB : B ≤ n₀)
    (hc : w.cell? ⟨Bs, 0, none⟩ = some (.slice A len cap)) (hI : Reads w B A len (vn .i64 (zs.map Fin.val))) :
    SeqStopsK F n Try.prog 62 #[.pointer (some ⟨Bs, 0, none⟩)] (fun x : PF => #[Value.int .i64 (x.1 : Int), Value.int .i64 (x.2.val : Int)]) (BK n₀ Bs) (fun ys => ys = bkTo zs zs.length) (fun pre => ∃ k, k ≤ zs.length ∧ pre = bkTo zs k) zs.length w := fun l J Jx W hW _ _ hY h0 => by
  have hc' := (hW.cell (p := ⟨Bs, 0, none⟩) hBs).trans hc
  have hlen : zs.length = len := by have := hI.nat_len; simpa using this
  subst hlen
  rcases Nat.eq_zero_or_pos zs.length with h1 | h1
  · rw [h1] at hc'
    refine (back1_nil_in F n hf hro l Bs A cap J W hc' h0).mono fun e W' ⟨he, hj⟩ => ⟨he, .inl ⟨_, rfl, ?_⟩⟩
    rw [h1]; exact hj
  · obtain ⟨ad, rfl, hb, hcs⟩ := hI.cells h1
    refine back1_in F n hf hro hn l Bs n₀ ad cap zs.length zs rfl hreach h1 (Nat.lt_of_lt_of_le hb hB) J Jx hY W hc' ?_ h0
    intro j hj
    refine (hW.cell (by rw [block_of_add]; omega)).trans (hcs j _ ?_)
    simp [List.getElem?_eq_getElem hj]

def yF (x : Nat) (pre : List PF) : Nat := pre.foldl (fun y p => gm y x ^^^ p.2.val) 0
theorem yF_snoc (x : Nat) (pre : List PF) (p : PF) : yF x (pre ++ [p]) = gm (yF x pre) x ^^^ p.2.val := by unfold yF; rw [List.foldl_append]; rfl
theorem yF_lt {x : Nat} (hx : x < 16) (pre : List PF) : yF x pre < 16 := by
  suffices h : ∀ (pre : List PF) (y : Nat), y < 16 → pre.foldl (fun y p => gm y x ^^^ p.2.val) y < 16 from h pre 0 (by omega)
  intro pre
  induction pre with
  | nil => intro y hy; exact hy
  | cons p t ih => intro y hy; exact ih _ (xor_lt16 (gm_lt hy hx) p.2.isLt)
theorem yF_horn (x : Nat) (zs : List (Fin 16)) (k : Nat) (hk : k ≤ zs.length) : yF x (bkTo zs k) = horn x ((zs.map Fin.val).drop (zs.length - k)) := by
  induction k with
  | zero => rw [List.drop_of_length_le (by simp)]; rfl
  | succ k ih =>
    have hp : zs.length - (k + 1) < zs.length := by omega
    rw [bkTo_succ, yF_snoc, ih (by omega), bkF_at (p := zs.length - (k + 1)) (by omega)]
    have e : (zs.map Fin.val)[zs.length - (k + 1)]? = some (zs[zs.length - (k + 1)]).val := by simp [List.getElem?_eq_getElem hp]
    rw [drop_next e, show zs.length - (k + 1) + 1 = zs.length - k from by omega, horn]
    simp [List.getElem?_eq_getElem hp]
theorem fins_of {l : List Nat} (h : ∀ x ∈ l, x < 16) : ∃ zs : List (Fin 16), zs.map Fin.val = l := by
  induction l with
  | nil => exact ⟨[], rfl⟩
  | cons x t ih =>
    obtain ⟨zs, hz⟩ := ih fun y hy => h y (List.mem_cons_of_mem _ hy)
    exact ⟨⟨x, h x (List.mem_cons_self ..)⟩ :: zs, by rw [List.map_cons, hz]⟩

set_option maxRecDepth 100000 in
set_option maxHeartbeats 2000000 in
theorem field_Value (A : Option Addr) (n c : Nat) (l : List Nat) (x : Nat) (w : World) (h : Reads w w.heap.size A n (vn .i64 l)) (hn : n ≤ 1000000) (hl : ∀ z ∈ l, z < 16) (hx : x < 16) :
    Calls Try.prog 53 #[.slice A n c, .int .i64 (x : Int)] w (RetB w (.int .i64 (horn x l : Int))) := by
  obtain ⟨zs, rfl⟩ := fins_of hl
  have hlen : zs.length = n := by have := h.nat_len; simpa using this
  have HE : Hid (horn x (zs.map Fin.val) = yF x (bkTo zs zs.length)) := by unfold Hid; rw [yF_horn x zs _ (Nat.le_refl _), Nat.sub_self, List.drop_zero]
  refine (callsIn_wide (n := 3)).1 ?_
  refine callsIn_of_wp_marks Try.func53 rfl trivial ?_ rfl
  simp only [Try.ntmps53, List.size_toArray, List.length_cons, List.length_nil, Nat.reduceAdd, Nat.reduceSub, Array.replicate_succ, Array.replicate_zero, List.push_toArray, List.append_toArray, List.nil_append, List.cons_append]
  gi_wp2_with (refine ⟨trivial, ?_⟩; gi_at_call 60; refine (back_in Fence.wide 2 trivial rfl _ _ _ _).mono ?_; rintro e w' ⟨rfl, rfl⟩)
  have bX := Boxed.new w 3 (.int .i64 (x : Int))
  have bS := Boxed.new (w.alloc (.cells #[.int .i64 (x : Int)] 3)) 3 (.int .i64 0)
  have bN := Boxed.new ((w.alloc (.cells #[.int .i64 (x : Int)] 3)).alloc (.cells #[.int .i64 0] 3)) 35 (.slice A n c)
  rw [World.size_alloc] at bS bN
  rw [World.size_alloc] at bN
  have hB0 : Below w.heap.size w (((w.alloc (.cells #[.int .i64 (x : Int)] 3)).alloc (.cells #[.int .i64 0] 3)).alloc (.cells #[.slice A n c] 35)) := (((Below.refl _ w).alloc (Nat.le_refl _) _).alloc (by simp) _).alloc (by simp; omega) _
  refine wpIn_rangeFunc_ownG rfl (by omega) (gf := 62) (lb := #[.pointer (some ⟨w.heap.size + 1 + 1, 0, none⟩)]) rfl trivial (enters_of Try.func62 (by kernel_rfl) rfl)
    (back_stops Fence.wide _ trivial rfl (by omega) (w.heap.size + 1 + 1) w.heap.size w.heap.size A n c zs (by omega) _ (by simp) (by simp; omega) (Nat.le_refl _) bN.cell (h.below hB0)) bkK_t (bkK_b (by simp; omega) (by simp)) (Below.refl _ _) (fun _ => rfl)
    (fun pre W => ((W.cell? ⟨w.heap.size + 1, 0, none⟩ = some (.int .i64 (yF x pre : Int)) ∧ W.frozen? ⟨w.heap.size + 1, 0, none⟩ = false) ∧ W.cell? ⟨w.heap.size, 0, none⟩ = some (.int .i64 (x : Int))) ∧ Below w.heap.size w W)
    (fun _ _ _ => False)
    (OwnFrom.and (Own.from (fun s A B row hs hg hr => ⟨⟨cell_kept hs.1.1 hg hr, (frozen_kept hs.1.1 hg hr).trans hs.1.2⟩, cell_kept hs.2 hg hr⟩) _) (ownFrom_below (Nat.le_refl _) (by simp; omega)))
    (fun _ _ _ _ _ hs _ _ => hs)
    ⟨⟨⟨(bS.alloc _).cell, (bS.alloc _).frozen⟩, ((bX.alloc _).alloc _).cell⟩, hB0⟩
    (fun p => { tmps := #[.slice A n c, .int .i64 (x : Int), undef, .pointer (some ⟨w.heap.size, 0, none⟩), .int .i64 0, .pointer (some ⟨w.heap.size + 1, 0, none⟩), undef, .int .i64 (p.2.val : Int), .slice A n c, .func (.func 62) #[] #[.pointer (some ⟨w.heap.size + 1 + 1, 0, none⟩)], .int .i64 (p.1 : Int), .int .i64 (p.2.val : Int), undef, undef, undef, undef, undef, undef], defers := [] }) ?assign ?body ?done ?stop
  case assign =>
    intro l p W K hK
    gi_wp2
    exact hK
  case body =>
    rintro l pre p W ⟨⟨⟨hc, hf⟩, hcx⟩, hB⟩ _
    have hy := yF_lt hx pre
    have hp16 := p.2.isLt
    have hs := Lib.hid (yF_snoc x pre p)
    have hm := gm_lt hy hx
    have c1 := fun w => field_Times (yF x pre) x w hy hx
    have e1 := i64_xor_nat (gm (yF x pre) x) p.2.val (by omega) (by omega)
    generalize yF x pre = y at *
    generalize gm y x = g at *
    generalize p.2.val = z at *
    gi_wp2_with (refine ⟨trivial, ?_⟩; gi_at_call 51; refine (CallsIn.inRound l (callsIn_wide.2 (c1 _))).mono ?_; rintro e w' ⟨rfl, rfl⟩)
    exact ⟨(KeepsOthers.setCell _ _ _).from _, ⟨(Below.refl w.heap.size W).setCell (p := ⟨w.heap.size + 1, 0, none⟩) (by simp) _, World.cell?_setCell_other _ _ _ _ (by simp)⟩, ⟨⟨by rw [hs.out, ← e1]; exact World.cell?_setCell_same' _ _ _ (by rw [hc]; rfl), by rw [World.frozen?_setCell]; exact hf⟩, by rw [World.cell?_setCell_other _ _ _ _ (by simp)]; exact hcx⟩, hB.setCell (p := ⟨w.heap.size + 1, 0, none⟩) (by simp) _⟩
  case done =>
    rintro D ys W hD rfl ⟨⟨⟨hc, _⟩, _⟩, hB⟩ hK
    rw [← HE.out] at hc
    gi_wp2
    refine ⟨by simp, .inl ⟨_, _, rfl, run_takeDeferred hK, ?_⟩⟩
    exact ⟨_, results_tmp rfl _ _ _, rfl, hB.trans (belowK_b (w := w) (Nat.le_refl _) W D _ _ (by simp at hD; omega) hK rfl rfl)⟩
  case stop =>
    rintro D c pre W _ _ h _
    exact h.elim
end Go.Proofs.Ytpbffbhebdcpbaa

/-
  trellis.Get walked.
-/
import Derived.Test.YtpbffbhebdcpbaaTvk
import Derived.Test.YtpbffbhebdcpbaaTrel
import Derived.Test.YtpbffbhebdcpbaaBose
import Derived.Test.YtpbffbhebdcpbaaBit64
import Derived.Test.YtpbffbhebdcpbaaCloneBools
import Derived.Test.YtpbffbhebdcpbaaStep
import Derived.Test.YtpbffbhebdcpbaaApart
import Derived.BigRegion
import Derived.Deep.RegionHeld3
import Derived.BigQuiet
import Derived.Deep.QuietTactic
import Derived.Deep.CutRange
import Derived.Deep.DeepCutAuto
set_option linter.unusedVariables false
namespace Go.Proofs.Ytpbffbhebdcpbaa
open Go.RowKit

theorem keepT {w W : World} {g : Nat} {x y : Value} (hb : Below w.heap.size w W) (hg : g < w.heap.size) (h0 : w.cell? ⟨g, 0, none⟩ = some x) (h1 : w.cell? ⟨g, 1, none⟩ = some y) :
    Below w.heap.size w W ∧ W.cell? ⟨g, 0, none⟩ = some x ∧ W.cell? ⟨g, 1, none⟩ = some y :=
  ⟨hb, (hb.cell (p := ⟨g, 0, none⟩) hg).trans h0, (hb.cell (p := ⟨g, 1, none⟩) hg).trans h1⟩
theorem hh_allocT (w : World) (o : Obj) (i : Nat) : (w.alloc o).heap[i]? = if i = w.heap.size then some o else w.heap[i]? := Array.getElem?_push
theorem hh_sizeT (w : World) (o : Obj) : (w.alloc o).heap.size = w.heap.size + 1 := by simp
theorem hh_drewT (w : World) : w.drew.heap = w.heap := rfl
theorem reads_oneH {W : World} {E : TypeId} {g : Nat} {u : Value} (h : W.heap[g]? = some (.cells #[u] E (0, 0))) : Reads W (g + 1) (some ⟨g, 0, none⟩) 1 [u] :=
  ⟨rfl, fun _ => ⟨_, rfl, by simp, fun j x hx => by
    rcases j with _ | j
    · have hx2 : u = x := by simpa using hx
      subst hx2
      have := cell_of_row W g 0 #[u] E (0, 0) h
      rw [add_row]; simpa using this
    · simp at hx⟩⟩
theorem box_grown {X W : World} {g B : Nat} {E T : TypeId} {v : Value} {xs z : List Value} (hg : X.grownBy W v.ownBlock) (ho : Own X B E v xs) (hb : BoxV X g T z) (hT : E ≠ T) : BoxV W g T z :=
  hb.ch (Ch.of_grown hg) (ho.notBox hb hT)
theorem vb_snoc (p : List Bool) (b : Bool) : vb p ++ [Value.bool b] = vb (p ++ [b]) := by simp
theorem after17 {wi w4 : World} {g n c : Nat} {A : Option Addr} {p : List Bool} {b : Bool} {z0 z1 u v : Value} (hbW : Below wi.heap.size wi w4) (ho : Own w4 wi.heap.size 4 (.slice A n c) (vb p ++ [.bool b])) (hz : BoxV w4 g 51 [z0, z1]) (hg : wi.heap.size ≤ g) :
    BoxV ((w4.setCell ⟨g, 0, none⟩ u).setCell ⟨g, 1, none⟩ v) g 51 [u, v] ∧ Own ((w4.setCell ⟨g, 0, none⟩ u).setCell ⟨g, 1, none⟩ v) wi.heap.size 4 (.slice A n c) (vb (p ++ [b])) ∧ Below wi.heap.size wi ((w4.setCell ⟨g, 0, none⟩ u).setCell ⟨g, 1, none⟩ v) ∧ wi.heap.size ≤ g := by
  have hn := ho.notBox hz (by decide)
  rw [vb_snoc] at ho
  exact ⟨(hz.set 0 u).set 1 v, (ho.setOther ⟨g, 0, none⟩ u hn).setOther ⟨g, 1, none⟩ v hn, (hbW.setCell (p := ⟨g, 0, none⟩) hg u).setCell (p := ⟨g, 1, none⟩) hg v, hg⟩
theorem after17a {wi w4 : World} {n c : Nat} {A : Option Addr} {p : List Bool} {b : Bool} {u v : Value} (hbW : Below wi.heap.size wi w4) (ho : Own w4 wi.heap.size 4 (.slice A n c) (vb p ++ [.bool b])) :
    BoxV (w4.alloc (.cells #[u, v] 51)) w4.heap.size 51 [u, v] ∧ Own (w4.alloc (.cells #[u, v] 51)) wi.heap.size 4 (.slice A n c) (vb (p ++ [b])) ∧ Below wi.heap.size wi (w4.alloc (.cells #[u, v] 51)) ∧ wi.heap.size ≤ w4.heap.size := by
  rw [vb_snoc] at ho
  exact ⟨BoxV.new w4 [u, v] _, ho.alloc _, hbW.alloc hbW.size _, hbW.size⟩
/-- how far a pair is off, place by place -/
def prD (L : List Bool) (k : Nat) (X Y : Bool) : Nat → Nat
  | 0 => 0
  | 1 => tb (X != L.getD (2 * k) false)
  | _ => pairD L k X Y
theorem prD_le (L : List Bool) (k : Nat) (X Y : Bool) : ∀ i, prD L k X Y i ≤ 2
  | 0 => by simp [prD]
  | 1 => Nat.le_trans (tb_le _) (by omega)
  | i + 2 => Nat.add_le_add (tb_le _) (tb_le _)
theorem reads_takeT {w : World} {B N n : Nat} {A : Option Addr} {l : List Bool} (h : Reads w B A N (vb l)) (hn : n ≤ N) : Reads w B A n (vb (l.take n)) := by
  have hl := h.bool_len
  refine ⟨by simp; omega, fun h0 => ?_⟩
  obtain ⟨ad, e, hb, hc⟩ := h.cells (by omega)
  refine ⟨ad, e, hb, fun j u hu => hc j u ?_⟩
  rw [List.getElem?_map] at hu ⊢
  rw [List.getElem?_take] at hu
  split at hu
  · exact hu
  · simp at hu
theorem zeroP (w : World) : (zeroValue 51).run Try.prog w = .ok (pvV pv0) w := by kernel_rfl
def GetP (w : World) (L : List Bool) (n : Nat) (e : Ending) (w' : World) : Prop :=
  ∃ A' n' c' d k, e = .returned (.tuple #[.slice A' n' c', .int .i64 ((k : Nat) : Int), .int .i64 0]) ∧ BestV L n d k ∧ Reads w' w'.heap.size A' n' (vb d) ∧ Below w.heap.size w w'
set_option maxHeartbeats 400000 in
theorem trellis_Get_odd (A : Option Addr) (m c : Nat) (w : World) (hm : m ≤ 9000000000000000000) (ho : m % 2 = 1 ∨ m < 4) :
    Calls Try.prog 7 #[.slice A m c] w (Ret w (.tuple #[.slice none 0 0, .int .i64 0, .int .i64 3])) := by
  rcases Nat.mod_two_eq_zero_or_one m with h2 | h2
  · have h4 : (m : Int) < 4 := by omega
    have hq : (m : Int) % 2 = 0 := by omega
    clear ho
    go_enter Try.func7, Try.ntmps7
    go_wp2
    go_ret3
    exact ⟨rfl, rfl⟩
  · have hq : (m : Int) % 2 = 1 := by omega
    clear ho
    go_enter Try.func7, Try.ntmps7
    go_wp2
    go_ret3
    exact ⟨rfl, rfl⟩
set_option maxHeartbeats 400000 in
theorem trellis_Get_far (A : Option Addr) (m c : Nat) (w : World) (hm : m ≤ 9000000000000000000) (h2 : m % 2 = 0) (hf : 28 < m) :
    Calls Try.prog 7 #[.slice A m c] w (Ret w (.tuple #[.slice none 0 0, .int .i64 0, .int .i64 1])) := by
  have hq : (m : Int) % 2 = 0 := by omega
  have h4 : ¬ (m : Int) < 4 := by omega
  have h12 : (12 : Int) < (m : Int) / 2 - 2 := by omega
  go_enter Try.func7, Try.ntmps7
  go_wp2
  go_ret3
  exact ⟨rfl, rfl⟩
set_option maxRecDepth 100000 in
set_option maxHeartbeats 4000000 in
theorem trellis_Get (A : Option Addr) (n m c : Nat) (L : List Bool) (w : World) (h : Reads w w.heap.size A m (vb L)) (hm : m = 2 * (n + 2)) (hn : n ≤ 12) :
    Calls Try.prog 7 #[.slice A m c] w (GetP w L n) := by
  have hL := h.bool_len
  rw [hm] at hL
  have HLL := Lib.hid hL
  have hq : (m : Int) % 2 = 0 := by omega
  have h4 : ¬ (m : Int) < 4 := by omega
  have hdiv : (m : Int) / 2 - 2 = (n : Int) := by omega
  have HM := Lib.hid hm
  have hm28 : m ≤ 28 := by omega
  have H := Lib.hid h
  clear h hL hm
  obtain ⟨N, hN⟩ : ∃ N, N = n + 2 := ⟨_, rfl⟩
  have eN : (n : Int) + 2 = (N : Int) := by omega
  have HN := Lib.hid hN
  have hN14 : N ≤ 14 := by omega
  clear hN
  have hmk := @run_makeMap Try.prog
  have hb0 : Below w.heap.size w (w.alloc (.map #[] 0)) := (Below.refl _ _).alloc (Nat.le_refl _) _
  obtain ⟨w1, hput, hmap1, hg1⟩ := (MapT.made w).put (by unfold maxLen; omega) false false pv0
  have hb1 : Below w.heap.size w w1 := hb0.grown hg1 hb0.size (fun j hj => by injection hj with hj; omega)
  have hput0 : (Instr.mapUpdate 52 (.map (some w.heap.size)) (.agg #[.bool false, .bool false]) (.agg #[.slice none 0 0, .int .i64 0])).run Try.prog (w.alloc (.map #[] 0)) = .ok () w1 := hput
  have HM1 := Lib.hid hmap1
  have HB1 := Lib.hid hb1
  clear hput hmap1 hb1 hg1 hb0
  go_enter Try.func7, Try.ntmps7
  go_wp2
  clear hput0
  go_loopw [41, 6] (fun iv mv wr => ∃ (k bm cap : Nat) (f : PF2) (F : SF), k ≤ N ∧ iv = .int .i64 (k : Int) ∧ mv = .map (some bm) ∧ cap ≤ 8 ∧ MapT wr bm cap f ∧ RepT wr w.heap.size k f F ∧ Hid (MapOK L n k F) ∧ Below w.heap.size w wr) (fun iv _ _ => N - (intOf iv).toNat)
  case atStart => exact ⟨0, _, 1, _, _, Nat.zero_le _, rfl, rfl, by omega, HM1.out, RepT.start _ _, mapOK_start L n, HB1.out⟩
  case round =>
    obtain ⟨k, bm, cap, f, F, hk, rfl, rfl, hcap, hmap, hrep, hok, hbel⟩ := hrel
    obtain ⟨wo, rfl⟩ : ∃ x, x = wr := ⟨_, rfl⟩
    clear HM1 HB1
    by_cases hlt : k < N
    · have i1 : (k : Int) < (N : Int) := by omega
      have hsz := hbel.size
      have hmap2 := hmap.keep (heap_alloc_old wo (.map #[] 0) hmap.lt)
      have hnx := MapT.made wo
      have hbe2 := Below.alloc hbel hsz (.map #[] 0)
      have hbw : Below wo.heap.size wo (wo.alloc (.map #[] 0)) := (Below.refl _ _).alloc (Nat.le_refl _) _
      have hrep2 := hrep.kr (.of_below hbw)
      have hbl := hmap.lt
      have HNX := Lib.hid hnx
      have HRP := Lib.hid hrep2
      have HBE := Lib.hid hbe2
      have HBL := Lib.hid hbl
      clear hmap hrep hbel hnx hbe2 hrep2 hbw hbl
      go_wp2_with (at_range; refine rangeT _ rfl _ rfl bm cap f rfl hmap2 ?_; intro w0 cnt0 hrg0 hg0 hs0)
      have hbq : Below (wo.alloc (.map #[] 0)).heap.size (wo.alloc (.map #[] 0)) w0 := (Below.refl _ _).grown hg0 (Nat.le_refl _) (fun j hj => by cases hj)
      have hsa : (wo.alloc (.map #[] 0)).heap.size = wo.heap.size + 1 := by simp
      rw [hsa] at hrg0 hbq ⊢
      have hLT0 := LT.begin (k := k) (L := L) (n := n) hrg0 (HNX.out.keep (hbq.block _ (by omega))) (HRP.out.kr (.of_below (by rw [hsa]; exact hbq))) (HBE.out.trans (hbq.mono (by omega))) (by have := HBL.out; omega) (by omega) hsz
      have HLT0 := Lib.hid hLT0
      have hc0 : 0 + 2 * cg (fun x y => (f x y).isSome) ≤ 8 := by have := cg_le (fun x y => (f x y).isSome); omega
      have HC0 := Lib.hid hc0
      obtain ⟨r, hr⟩ : ∃ r, wo.heap.size + 1 = r := ⟨_, rfl⟩
      rw [hr] at HLT0 ⊢
      clear hrg0 hg0 hs0 HNX HRP HBE hmap2 hbq hLT0 hc0 hsa
      go_frame
      go_loopw [9] (fun _ wr => ∃ (g : Bool → Bool → Bool) (cnt capN : Nat) (h : PF2) (H : SF), LT w wr L k bm r cap cnt wo.heap.size capN f h F H g (Dg n k g) ∧ capN + 2 * cg g ≤ 8) (fun _ wr => wr.rangeLeft bm r)
      case atStart => exact ⟨_, _, _, _, _, HLT0.out, HC0.out⟩
      case round =>
        obtain ⟨g, cnt, capN, hm, G, hLT, hcg⟩ := hrel
        clear HLT0 HC0
        have hrg := hLT.rng
        have HLT := Lib.hid hLT
        clear hLT
        go_wp2_with (first
          | (at_next; refine nextT _ rfl _ rfl bm r cap f g cnt rfl hrg ?_ ?_)
          | go_in)
        · intro hall
          have hM := HLT.out.end_ hok.out (fun x y => hall ⟨x, y⟩)
          clear hrg
          go_wp2
          go_roundw
          case rel => exact ⟨k + 1, wo.heap.size, capN, hm, G, by omega, by go_num, rfl, by omega, HLT.out.nxt, HLT.out.rep, hM, HLT.out.bel⟩
          case measure => simp [intOf] <;> omega
        · rintro ⟨x, y⟩ Av nv cv ov w2 cnt2 hgxy hfv hrg2 hlt2 hg2 hs2 hen
          simp only at hgxy hfv hrg2 hen ⊢
          obtain ⟨p, hFp, hop, hnv, hov, hpl⟩ := HLT.out.cur.some_ hfv
          have hLT2 := HLT.out.next hrg2 hg2 hgxy
          have hop2 : Own w2 w.heap.size 4 (.slice Av nv cv) (vb p) := hop.heapAt fun b hb => by
            obtain ⟨cur, hc⟩ := hop.ty hb
            refine hg2.block _ (hop.lt b hb).2 (fun e => ?_)
            injection e with e
            subst e
            obtain ⟨D, left, ⟨es, clock, since, seen, c0, hb0, F0, hs0, hD, hr0, rest⟩, hx⟩ := hrg
            rw [hr0] at hc; injection hc with hc; cases hc
          have hcg2 := cg_hit hgxy
          simp only at hop2 hnv hov hFp
          subst nv
          have HLT2 := Lib.hid hLT2
          have HOP := Lib.hid hop2
          have HFP := Lib.hid hFp
          have HFV := Lib.hid hfv
          have HGX := Lib.hid hgxy
          have HPL := Lib.hid hpl
          have HMR : Hid (cnt2 < w0.rangeLeft bm r ∨ True) := .inr trivial
          have hml := hrg.left_eq
          clear hop hop2 hfv hFp hgxy hpl hLT2 hrg hrg2 hg2 hs2 HMR
          obtain ⟨wl, hwl⟩ : ∃ wl, ((w2.alloc (.cells #[.bool x, .bool y] 49)).alloc (.cells #[.slice Av k cv, .int .i64 (ov : Int)] 51)).alloc (.cells #[.bool false, .bool true] 4) = wl := ⟨_, rfl⟩
          have hbl : Below w2.heap.size w2 wl := by rw [← hwl]; exact (((Below.refl _ w2).alloc (Nat.le_refl _) _).alloc (by simp) _).alloc (by simp; omega) _
          have hsl : wl.heap.size = w2.heap.size + 3 := by rw [← hwl]; simp
          have hLTl := HLT2.out.keep hbl
          have hB9 : BoxV wl w2.heap.size 49 [.bool x, .bool y] := by
            rw [← hwl]; exact ((BoxV.new w2 [.bool x, .bool y] 49).alloc _).alloc _
          have hB10 : BoxV wl (w2.heap.size + 1) 51 [.slice Av k cv, .int .i64 (ov : Int)] := by
            rw [← hwl]
            have := BoxV.new (w2.alloc (.cells #[.bool x, .bool y] 49)) [.slice Av k cv, .int .i64 (ov : Int)] 51
            simp only [World.size_alloc] at this
            exact this.alloc _
          have hR59 : BoxV wl (w2.heap.size + 2) 4 [.bool false, .bool true] := by
            rw [← hwl]
            have := BoxV.new ((w2.alloc (.cells #[.bool x, .bool y] 49)).alloc (.cells #[.slice Av k cv, .int .i64 (ov : Int)] 51)) [.bool false, .bool true] 4
            simp only [World.size_alloc] at this
            exact this
          have HLTl := Lib.hid hLTl
          have HB9 := Lib.hid hB9
          have HB10 := Lib.hid hB10
          have HR59 := Lib.hid hR59
          clear hLTl hB9 hB10 hR59 hbl HLT HLT2 HOP
          obtain ⟨M3, hM3⟩ : ∃ M3, (k < n ∧ M3 = 2) ∨ (¬ k < n ∧ M3 = 1) := by
            by_cases hkn : k < n
            · exact ⟨2, .inl ⟨hkn, rfl⟩⟩
            · exact ⟨1, .inr ⟨hkn, rfl⟩⟩
          rcases hM3 with ⟨hkn, hM3⟩ | ⟨hkn, hM3⟩
          all_goals
            have HM3 := Lib.hid hM3
            clear hM3
            first
              | (have i2 : (k : Int) < (n : Int) := by omega
                 go_wp2)
              | (have i2 : ¬ (k : Int) < (n : Int) := by omega
                 have i3 : (n : Int) - (k : Int) < 1 := by omega
                 go_wp2)
          all_goals
            clear hwl
            go_loopw [61] (fun jv wr => ∃ (j capN : Nat) (hm : PF2) (G : SF), jv = .int .i64 (j : Int) ∧ j ≤ M3 ∧ LT w wr L k bm r cap cnt2 wo.heap.size capN f hm F G (gHit g x y) (DJ n k g x y j) ∧ capN + 2 * cg (gHit g x y) ≤ 6 + j ∧ BoxV wr w2.heap.size 49 [.bool x, .bool y] ∧ BoxV wr (w2.heap.size + 1) 51 [.slice Av k cv, .int .i64 (ov : Int)] ∧ BoxV wr (w2.heap.size + 2) 4 [.bool false, .bool true]) (fun jv _ => M3 - (intOf jv).toNat)
            case atStart => exact ⟨0, capN, hm, G, rfl, Nat.zero_le _, HLTl.out, by omega, HB9.out, HB10.out, HR59.out⟩
            case round =>
              obtain ⟨j, capJ, hj, GJ, rfl, hjM, hLT, hcap3, hb9, hb10, hr59⟩ := hrel
              obtain ⟨wi, rfl⟩ : ∃ z, z = wr := ⟨_, rfl⟩
              clear HLTl HB9 HB10 HR59
              have HCP := Lib.hid hcap3
              by_cases hjl : j < M3
              · obtain ⟨b, hbj, hbx⟩ : ∃ b : Bool, tb b = j ∧ ([Value.bool false, Value.bool true] : List Value)[j]? = some (.bool b) := by
                  rcases (by have := HM3.out; omega : j = 0 ∨ j = 1) with e | e
                  · subst e; exact ⟨false, rfl, rfl⟩
                  · subst e; exact ⟨true, rfl, rfl⟩
                have hc59 := hr59.cell hbx
                obtain ⟨p', hFp', hop, _, _, _⟩ := hLT.cur.some_ HFV.out
                simp only at hop
                have hown := hop
                have hz : p' = p := by have := HFP.out; rw [hFp'] at this; injection this with this; injection this
                subst hz
                have q0 := hb10.cell (j := 0) rfl
                have q1 := hb10.cell (j := 1) rfl
                have hgl := hb10.lt
                have hsb : w.heap.size ≤ wi.heap.size := hLT.bel.size
                have hd0 := hb9.cell (j := 0) rfl
                have hd1 := hb9.cell (j := 1) rfl
                have HLT := Lib.hid hLT
                have HOW := Lib.hid hop
                have HB9 := Lib.hid hb9
                have HB10 := Lib.hid hb10
                have HR59 := Lib.hid hr59
                have HBJ := Lib.hid hbj
                have i5 : (0 : Int) ≤ (j : Int) := by omega
                have hvl : (vb p').length = k := by rw [List.length_map]; exact HPL.out
                have hvl4 : (vb p' ++ [Value.bool b]).length = k + 1 := by rw [List.length_append, hvl]; rfl
                clear hLT hop hb9 hb10 hr59 hbj hbx hcap3 hown hFp'
                first
                  | (have i4 : (j : Int) < 1 := by have := HM3.out; omega
                     go_wp2)
                  | (have i4 : (j : Int) < 2 := by have := HM3.out; omega
                     go_wp2)
                go_cut [13] (fun bv wc => ∃ (bb : Nat) (A3 : Option Addr) (c3 : Nat), bv = .pointer (some ⟨bb, 0, none⟩) ∧ BoxV wc bb 51 [.slice A3 (k + 1) c3, .int .i64 (ov : Int)] ∧ Own wc wi.heap.size 4 (.slice A3 (k + 1) c3) (vb (p' ++ [b])) ∧ Below wi.heap.size wi wc ∧ wi.heap.size ≤ bb)
                case first =>
                  go_region_held3 (fun W => Below wi.heap.size wi W ∧ W.cell? ⟨w2.heap.size + 1, 0, none⟩ = some (.slice Av k cv) ∧ W.cell? ⟨w2.heap.size + 1, 1, none⟩ = some (.int .i64 (ov : Int)))
                    ((go_split_ands; first
                      | exact keepT (Below.refl _ _).drew hgl q0 q1
                      | exact keepT (Below.alloc0 (by assumption) (Nat.le_refl _) _) hgl q0 q1
                      | exact keepT (Below.trans (by assumption) (hb3.mono (Below.size (by assumption)))) hgl q0 q1
                      | exact keepT hbW hgl q0 q1
                      | exact keepT (hbW.alloc0 (Nat.le_refl _) _) hgl q0 q1
                      | exact keepT (hbW.setCell (by first | (dsimp only; omega) | (simp; omega) | (simp; done) | fail) _) hgl q0 q1
                      | exact keepT ((hbW.setCell (by first | (dsimp only; omega) | (simp; omega) | (simp; done) | fail) _).setCell (by first | (dsimp only; omega) | (simp; omega) | (simp; done) | fail) _) hgl q0 q1
                      | fail))
                    (first
                      | (go_at_call 20; refine (clone_bools Av k cv (vb p') _ (by go_split_ands; exact (HOW.out.below (by assumption) (Nat.le_refl _)).reads) (one_vbT p') (by omega)).mono ?_; rintro e w3 ⟨A3, n3, c3, rfl, ho3, hb3⟩; have hs3 := hb3.size; replace ho3 := ho3.low (B := wi.heap.size) (by go_split_ands; exact Below.size (by assumption)); try simp only [hh_drewT, World.size_alloc] at hs3)
                      | ((refine step_appG el_concat_bools rfl (.tmp 67) (.tmp 69) (by rfl) (by rfl) (xs := vb p') (base := wi.heap.size) (by first | exact ho3 | exact ho3.alloc _ | exact (ho3.alloc _).alloc _ | fail) (by rfl) (news := [.bool b]) (by refine reads_oneH (E := 4) ?_; ((try simp only [hh_allocT, hh_sizeT]); (repeat (first | rw [if_pos rfl] | rw [if_pos (by omega)] | rw [if_neg (by omega)])); (first | done | rfl | ((refine (Below.block hb3 _ (by (try simp only [hh_drewT, hh_sizeT]); omega)).trans ?_); (try simp only [hh_drewT, hh_allocT, hh_sizeT]); (repeat (first | rw [if_pos rfl] | rw [if_pos (by omega)] | rw [if_neg (by omega)])); (first | done | rfl))))) (by intro u hu; rw [List.mem_singleton.1 hu]; rfl) (by rw [hvl]; unfold maxLen; omega) (by rw [hvl]; omega) (by go_split_ands; exact Below.size (by assumption)) ?_); intro v4 w4 ho4 hg4 _
                         obtain ⟨A4, c4, e4⟩ := ho4.form
                         rw [hvl4] at e4
                         subst e4
                         have hbW : Below wi.heap.size wi w4 := by
                           go_split_ands
                           exact Below.grown0 (by assumption) (Nat.le_refl _) hg4 (fun q hq => (Own.lt (base := wi.heap.size) (by first | exact ho3 | exact ho3.alloc _ | exact (ho3.alloc _).alloc _ | fail) q hq).1)
                         first
                         | (have hz := box_grown (g := w3.heap.size) (T := 51) (z := [.slice none 0 0, .int .i64 0]) hg4 (by first | exact ho3 | exact ho3.alloc _ | exact (ho3.alloc _).alloc _ | fail) (by show _ = some _; ((try simp only [hh_allocT, hh_sizeT]); (repeat (first | rw [if_pos rfl] | rw [if_pos (by omega)] | rw [if_neg (by omega)])); (first | done | rfl | ((refine (Below.block hb3 _ (by (try simp only [hh_drewT, hh_sizeT]); omega)).trans ?_); (try simp only [hh_drewT, hh_allocT, hh_sizeT]); (repeat (first | rw [if_pos rfl] | rw [if_pos (by omega)] | rw [if_neg (by omega)])); (first | done | rfl))))) (by decide)
                            have z0 := hz.cell (j := 0) rfl; have z1 := hz.cell (j := 1) rfl; have z2 := hz.free 0; have z3 := hz.free 1)
                         | (have hz := box_grown (g := w3.heap.size + 1) (T := 51) (z := [.slice none 0 0, .int .i64 0]) hg4 (by first | exact ho3 | exact ho3.alloc _ | exact (ho3.alloc _).alloc _ | fail) (by show _ = some _; ((try simp only [hh_allocT, hh_sizeT]); (repeat (first | rw [if_pos rfl] | rw [if_pos (by omega)] | rw [if_neg (by omega)])); (first | done | rfl | ((refine (Below.block hb3 _ (by (try simp only [hh_drewT, hh_sizeT]); omega)).trans ?_); (try simp only [hh_drewT, hh_allocT, hh_sizeT]); (repeat (first | rw [if_pos rfl] | rw [if_pos (by omega)] | rw [if_neg (by omega)])); (first | done | rfl))))) (by decide)
                            have z0 := hz.cell (j := 0) rfl; have z1 := hz.cell (j := 1) rfl; have z2 := hz.free 0; have z3 := hz.free 1)
                         | (have hz := box_grown (g := wi.heap.size) (T := 51) (z := [.slice none 0 0, .int .i64 0]) hg4 (by first | exact ho3 | exact ho3.alloc _ | exact (ho3.alloc _).alloc _ | fail) (by show _ = some _; ((try simp only [hh_allocT]); (repeat (first | rw [if_pos rfl] | rw [if_pos (by omega)] | rw [if_neg (by omega)])); (first | done | rfl | ((refine (Below.block hb3 _ (by (try simp only [hh_drewT, hh_sizeT]); omega)).trans ?_); (try simp only [hh_drewT, hh_allocT, hh_sizeT]); (repeat (first | rw [if_pos rfl] | rw [if_pos (by omega)] | rw [if_neg (by omega)])); (first | done | rfl))))) (by decide)
                            have z0 := hz.cell (j := 0) rfl; have z1 := hz.cell (j := 1) rfl; have z2 := hz.free 0; have z3 := hz.free 1)
                         | (have hz := box_grown (g := wi.heap.size + 1) (T := 51) (z := [.slice none 0 0, .int .i64 0]) hg4 (by first | exact ho3 | exact ho3.alloc _ | exact (ho3.alloc _).alloc _ | fail) (by show _ = some _; ((try simp only [hh_allocT]); (repeat (first | rw [if_pos rfl] | rw [if_pos (by omega)] | rw [if_neg (by omega)])); (first | done | rfl | ((refine (Below.block hb3 _ (by (try simp only [hh_drewT, hh_sizeT]); omega)).trans ?_); (try simp only [hh_drewT, hh_allocT, hh_sizeT]); (repeat (first | rw [if_pos rfl] | rw [if_pos (by omega)] | rw [if_neg (by omega)])); (first | done | rfl))))) (by decide)
                            have z0 := hz.cell (j := 0) rfl; have z1 := hz.cell (j := 1) rfl; have z2 := hz.free 0; have z3 := hz.free 1)
                         | skip)
                      | fail)
                  all_goals (try go_wp2_with fail)
                  all_goals go_meet
                  all_goals first
                    | exact ⟨_, A4, c4, rfl, after17a hbW ho4⟩
                    | exact ⟨_, A4, c4, rfl, after17 hbW ho4 hz (by omega)⟩
                case rest =>
                  obtain ⟨bb, A3, c3, rfl, hbb, ho3, hbc, hbg⟩ := hcut
                  obtain ⟨wk, rfl⟩ : ∃ z, z = wc := ⟨_, rfl⟩
                  obtain ⟨X, hX⟩ : ∃ X, ((b != x) != y) = X := ⟨_, rfl⟩
                  obtain ⟨Y, hY⟩ : ∃ Y, (b != y) = Y := ⟨_, rfl⟩
                  have co := trellis_out x y b X Y wk hX hY
                  have HST : Hid (pairD L k X Y = stC L k x y b) := by unfold Hid stC; rw [hX, hY]
                  have hb9k := HB9.out.below hbc
                  have e0 := hb9k.cell (j := 0) rfl
                  have e1 := hb9k.cell (j := 1) rfl
                  have HBB := Lib.hid hbb
                  have HO3 := Lib.hid ho3
                  have HBC := Lib.hid hbc
                  clear hbb ho3 hbc hb9k q0 q1 hX hY hc59
                  go_wp2_with (go_at_call 21; refine co.mono ?_; clear co; rintro e w5 ⟨rfl, hb5⟩)
                  have hbb5 := HBB.out.below hb5
                  have ho5 := HO3.out.below hb5 (Nat.le_refl _)
                  have hbe5 := HBC.out.trans (hb5.mono HBC.out.size)
                  have HBB5 := Lib.hid hbb5
                  have HO5 := Lib.hid ho5
                  have HBE5 := Lib.hid hbe5
                  clear hbb5 ho5 hbe5 hb5 HBB HO3 HBC e0 e1
                  go_loopw [77] (fun iv wr => ∃ i : Nat, i ≤ 2 ∧ iv = .int .i64 (i : Int) ∧ BoxV wr bb 51 [.slice A3 (k + 1) c3, .int .i64 ((ov + prD L k X Y i : Nat) : Int)] ∧ Own wr wi.heap.size 4 (.slice A3 (k + 1) c3) (vb (p' ++ [b])) ∧ Below wi.heap.size wi wr) (fun iv _ => 2 - (intOf iv).toNat)
                  case atStart => exact ⟨0, by omega, rfl, HBB5.out, HO5.out, HBE5.out⟩
                  case round =>
                    obtain ⟨i, hi, rfl, hbb, ho, hbe⟩ := hrel
                    obtain ⟨wj, rfl⟩ : ∃ z, z = wr := ⟨_, rfl⟩
                    clear HBB5 HO5 HBE5
                    have hsbb := HLT.out.bel
                    have ix0 : ∀ w : World, (Instr.index 48 (.agg #[.bool X, .bool Y]) (.int .i64 0)).run Try.prog w = .ok (.bool X) w := fun _ => by kernel_rfl
                    have ix1 : ∀ w : World, (Instr.index 48 (.agg #[.bool X, .bool Y]) (.int .i64 1)).run Try.prog w = .ok (.bool Y) w := fun _ => by kernel_rfl
                    rcases (by omega : i = 0 ∨ i = 1 ∨ i = 2) with e | e | e <;> subst e
                    · obtain ⟨ad, z, hA, _, hz, hcz⟩ := (H.out.below (hsbb.trans (hbe.mono hsb))).bool_at (k := 2 * k) (by have := HM.out; have := HN.out; omega)
                      subst hA
                      have hLz : L.getD (2 * k) false = z := by rw [List.getD_eq_getElem?_getD, hz]; rfl
                      have hnx : prD L k X Y 1 = prD L k X Y 0 + tb (X != z) := by simp only [prD, hLz, Nat.zero_add]
                      obtain ⟨o, hoo⟩ : ∃ o, ov + prD L k X Y 0 = o := ⟨_, rfl⟩
                      have hnx2 : ov + prD L k X Y 1 = o + tb (X != z) := by rw [hnx, ← hoo]; omega
                      have ho100 : o ≤ 100 := by have := prD_le L k X Y 0; omega
                      rw [hoo] at hbb
                      have q0 := hbb.cell (j := 0) rfl
                      have q1 := hbb.cell (j := 1) rfl
                      have q3 := hbb.free 1
                      have j0 : (0 : Int) ≤ 2 * (k : Int) := by omega
                      have j1 : 2 * (k : Int) < (m : Int) := by have := HM.out; have := HN.out; omega
                      have j2 : (2 * (k : Int)).toNat = 2 * k := by omega
                      have HOO := Lib.hid hoo
                      have HBBJ := Lib.hid hbb
                      have HOJ := Lib.hid ho
                      have HBEJ := Lib.hid hbe
                      have hnb := Lib.hid (ho.notBox hbb (by decide))
                      clear hz hLz hnx hoo hbb ho hbe
                      by_cases hd : X = z
                      · have HNX : Hid (ov + prD L k X Y 1 = o) := by unfold Hid; rw [hnx2, hd]; cases z <;> rfl
                        clear hnx2
                        subst hd
                        go_wp2
                        go_roundw
                        case rel => exact ⟨1, by omega, by go_num, by rw [HNX.out]; exact HBBJ.out, HOJ.out, HBEJ.out⟩
                        case measure => simp [intOf] <;> omega
                      · have HNX : Hid (ov + prD L k X Y 1 = o + 1) := by unfold Hid; rw [hnx2]; have : (X != z) = true := (by simpa using hd); rw [this]; rfl
                        have hd2 : (X != z) = true := by simpa using hd
                        have hd3 : (X == z) = false := by simpa using hd
                        clear hnx2
                        go_wp2
                        go_roundw
                        case rel => exact ⟨1, by omega, by go_num, by rw [HNX.out]; exact HBBJ.out.set 1 (.int .i64 ((o : Int) + 1)), HOJ.out.setOther ⟨bb, 1, none⟩ _ hnb.out, HBEJ.out.setCell (p := ⟨bb, 1, none⟩) hbg _⟩
                        case measure => simp [intOf] <;> omega
                    · obtain ⟨ad, z, hA, _, hz, hcz⟩ := (H.out.below (hsbb.trans (hbe.mono hsb))).bool_at (k := 2 * k + 1) (by have := HM.out; have := HN.out; omega)
                      subst hA
                      rw [show (((1 : Nat)) : Int) = 1 from rfl]
                      have hcz1 : wj.cell? ⟨ad.block, ad.off + (2 * k + 1), none⟩ = some (.bool z) := by have := hcz; rw [Addr.add, if_neg (by omega)] at this; exact this
                      have hLz : L.getD (2 * k + 1) false = z := by rw [List.getD_eq_getElem?_getD, hz]; rfl
                      have hnx : prD L k X Y 2 = prD L k X Y 1 + tb (Y != z) := by simp only [prD, pairD, hLz]
                      obtain ⟨o, hoo⟩ : ∃ o, ov + prD L k X Y 1 = o := ⟨_, rfl⟩
                      have hnx2 : ov + prD L k X Y 2 = o + tb (Y != z) := by rw [hnx, ← hoo]; omega
                      have ho100 : o ≤ 100 := by have := prD_le L k X Y 1; omega
                      rw [hoo] at hbb
                      have q0 := hbb.cell (j := 0) rfl
                      have q1 := hbb.cell (j := 1) rfl
                      have q3 := hbb.free 1
                      have j0 : (0 : Int) ≤ 2 * (k : Int) + 1 := by omega
                      have j1 : 2 * (k : Int) + 1 < (m : Int) := by have := HM.out; have := HN.out; omega
                      have j2 : (2 * (k : Int) + 1).toNat = 2 * k + 1 := by omega
                      have HOO := Lib.hid hoo
                      have HBBJ := Lib.hid hbb
                      have HOJ := Lib.hid ho
                      have HBEJ := Lib.hid hbe
                      have hnb := Lib.hid (ho.notBox hbb (by decide))
                      clear hz hLz hnx hoo hbb ho hbe
                      by_cases hd : Y = z
                      · have HNX : Hid (ov + prD L k X Y 2 = o) := by unfold Hid; rw [hnx2, hd]; cases z <;> rfl
                        clear hnx2
                        subst hd
                        go_wp2
                        go_roundw
                        case rel => exact ⟨2, by omega, by go_num, by rw [HNX.out]; exact HBBJ.out, HOJ.out, HBEJ.out⟩
                        case measure => simp [intOf] <;> omega
                      · have HNX : Hid (ov + prD L k X Y 2 = o + 1) := by unfold Hid; rw [hnx2]; have : (Y != z) = true := (by simpa using hd); rw [this]; rfl
                        have hd2 : (Y != z) = true := by simpa using hd
                        have hd3 : (Y == z) = false := by simpa using hd
                        clear hnx2
                        go_wp2
                        go_roundw
                        case rel => exact ⟨2, by omega, by go_num, by rw [HNX.out]; exact HBBJ.out.set 1 (.int .i64 ((o : Int) + 1)), HOJ.out.setOther ⟨bb, 1, none⟩ _ hnb.out, HBEJ.out.setCell (p := ⟨bb, 1, none⟩) hbg _⟩
                        case measure => simp [intOf] <;> omega
                    · obtain ⟨o, hoo⟩ : ∃ o, ov + prD L k X Y 2 = o := ⟨_, rfl⟩
                      have hoo2 : ov + stC L k x y b = o := by rw [← HST.out]; exact hoo
                      have ho100 : o ≤ 2 * (k + 1) := by have := stC_le (L := L) (k := k) x y b; omega
                      rw [hoo] at hbb
                      rw [show (((2 : Nat)) : Int) = 2 from rfl]
                      obtain ⟨wA, hwA⟩ : ∃ wA, wj.alloc (.cells #[.bool b, .bool x] 49) = wA := ⟨_, rfl⟩
                      have hbA : Below wi.heap.size wi wA := by rw [← hwA]; exact hbe.alloc hbe.size _
                      have hLTA := HLT.out.keep hbA
                      have g0 := (HB9.out.below hbe).cell (j := 0) rfl
                      have hb16 : BoxV wA wj.heap.size 49 [.bool b, .bool x] := by rw [← hwA]; exact BoxV.new wj [.bool b, .bool x] _
                      have hbbA : BoxV wA bb 51 [.slice A3 (k + 1) c3, .int .i64 (o : Int)] := by rw [← hwA]; exact hbb.alloc _
                      have hoA : Own wA wi.heap.size 4 (.slice A3 (k + 1) c3) (vb (p' ++ [b])) := by rw [← hwA]; exact ho.alloc _
                      have hlook := hLTA.nxt.look_ok (zeroP wA) b x
                      have r0 := hb16.cell (j := 0) rfl
                      have r1 := hb16.cell (j := 1) rfl
                      have HOO2 := Lib.hid hoo2
                      have hpl2 : (p' ++ [b]).length = k + 1 := by rw [List.length_append, HPL.out]; rfl
                      have HPL2 := Lib.hid hpl2
                      clear hbb ho hbe hsbb ix0 ix1 hoo hoo2 hpl2
                      cases hh : hj b x with
                      | none =>
                        rw [hh] at hlook
                        have hlk : (Instr.lookup 52 (.map (some wo.heap.size)) (.agg #[.bool b, .bool x]) true).run Try.prog wA = .ok (.tuple #[.agg #[.slice none 0 0, .int .i64 0], .bool false]) wA := hlook
                        obtain ⟨wB, hwB⟩ : ∃ wB, wA.alloc (.cells #[.slice none 0 0, .int .i64 0] 51) = wB := ⟨_, rfl⟩
                        have hbB : Below wi.heap.size wi wB := by rw [← hwB]; exact hbA.alloc hbA.size _
                        have hLTB := HLT.out.keep hbB
                        have hb16B : BoxV wB wj.heap.size 49 [.bool b, .bool x] := by rw [← hwB]; exact hb16.alloc _
                        have hbbB : BoxV wB bb 51 [.slice A3 (k + 1) c3, .int .i64 (o : Int)] := by rw [← hwB]; exact hbbA.alloc _
                        have hoB : Own wB wi.heap.size 4 (.slice A3 (k + 1) c3) (vb (p' ++ [b])) := by rw [← hwB]; exact hoA.alloc _
                        have s0 := hb16B.cell (j := 0) rfl
                        have s1 := hb16B.cell (j := 1) rfl
                        have s2 := hbbB.cell (j := 0) rfl
                        have s3 := hbbB.cell (j := 1) rfl
                        obtain ⟨wC, hput, hmapC, hgC⟩ := hLTB.nxt.put (by have := HCP.out; unfold maxLen; omega) b x (A3, k + 1, c3, o)
                        have hpt : (Instr.mapUpdate 52 (.map (some wo.heap.size)) (.agg #[.bool b, .bool x]) (.agg #[.slice A3 (k + 1) c3, .int .i64 (o : Int)])).run Try.prog wB = .ok () wC := hput
                        have hPOK := hLTB.pok.put hok.out HFP.out (b := b) (fun q0 e0 hg => by rw [hLTB.rep.none_ hh] at hg; cases hg)
                        rw [HOO2.out] at hPOK
                        have hLTC := (hLTB.put (u := (p' ++ [b], o)) hmapC hgC ⟨hoB.low hsb, rfl, rfl, ho100, HPL2.out⟩ hPOK).congr (fun x' y' z' _ => DJ_next HBJ.out x' y' z')
                        have hKR := KR.of_grown hgC (fun cs E z => hLTB.nxt.noCells)
                        have h9C : BoxV wC _ _ _ := hKR _ _ _ _ (HB9.out.below hbB)
                        have h10C : BoxV wC _ _ _ := hKR _ _ _ _ (HB10.out.below hbB)
                        have h59C : BoxV wC _ _ _ := hKR _ _ _ _ (HR59.out.below hbB)
                        have HLTC := Lib.hid hLTC
                        have H9C := Lib.hid h9C
                        have H10C := Lib.hid h10C
                        have H59C := Lib.hid h59C
                        clear hlook hLTA hLTB hbA hb16 hbbA hoA hb16B hbbB hoB hput hmapC hgC hPOK hLTC hKR h9C h10C h59C hbB
                        subst hwB
                        go_wp2
                        go_roundw
                        case rel => exact ⟨j + 1, capJ + 1, _, _, by go_num, by omega, HLTC.out, by have := HCP.out; omega, H9C.out, H10C.out, H59C.out⟩
                        case measure => simp [intOf] <;> omega
                      | some u =>
                        obtain ⟨A5, n5, c5, o5⟩ := u
                        rw [hh] at hlook
                        obtain ⟨q, hGq, hoq, hnq, ho5, hql⟩ := hLTA.rep.some_ hh
                        simp only at hGq hoq hnq ho5
                        subst n5
                        have hlk : (Instr.lookup 52 (.map (some wo.heap.size)) (.agg #[.bool b, .bool x]) true).run Try.prog wA = .ok (.tuple #[.agg #[.slice A5 (k + 1) c5, .int .i64 (o5 : Int)], .bool true]) wA := hlook
                        obtain ⟨wB, hwB⟩ : ∃ wB, wA.alloc (.cells #[.slice A5 (k + 1) c5, .int .i64 (o5 : Int)] 51) = wB := ⟨_, rfl⟩
                        have hbB : Below wi.heap.size wi wB := by rw [← hwB]; exact hbA.alloc hbA.size _
                        have hb16B : BoxV wB wj.heap.size 49 [.bool b, .bool x] := by rw [← hwB]; exact hb16.alloc _
                        have hbbB : BoxV wB bb 51 [.slice A3 (k + 1) c3, .int .i64 (o : Int)] := by rw [← hwB]; exact hbbA.alloc _
                        have hb17B : BoxV wB wA.heap.size 51 [.slice A5 (k + 1) c5, .int .i64 (o5 : Int)] := by rw [← hwB]; exact BoxV.new wA [.slice A5 (k + 1) c5, .int .i64 (o5 : Int)] _
                        have hoB : Own wB wi.heap.size 4 (.slice A3 (k + 1) c3) (vb (p' ++ [b])) := by rw [← hwB]; exact hoA.alloc _
                        have hqB : Own wB w.heap.size 4 (.slice A5 (k + 1) c5) (vb q) := by rw [← hwB]; exact hoq.alloc _
                        have s0 := hb16B.cell (j := 0) rfl
                        have s1 := hb16B.cell (j := 1) rfl
                        have s2 := hbbB.cell (j := 0) rfl
                        have s3 := hbbB.cell (j := 1) rfl
                        have s4 := hb17B.cell (j := 0) rfl
                        have s5 := hb17B.cell (j := 1) rfl
                        obtain ⟨res, hres⟩ : ∃ res, bet o (p' ++ [b]) o5 q = res := ⟨_, rfl⟩
                        have cb := trellis_better A3 A5 (k + 1) c3 c5 (p' ++ [b]) q o o5 res wB hoB.reads hqB.reads (Nat.le_refl _) (Nat.le_refl _) (by omega) (by omega) (by omega) hres
                        have HRES := Lib.hid hres
                        have HH := Lib.hid hh
                        have HGQ := Lib.hid hGq
                        have HBB2 := Lib.hid hbB
                        have HB16 := Lib.hid hb16B
                        have HBBB := Lib.hid hbbB
                        have HOB := Lib.hid hoB
                        clear hlook hLTA hbA hb16 hbbA hoA hb16B hbbB hb17B hoB hqB hbB hoq hres hh hGq
                        cases res with
                        | false =>
                          go_wp2_with (go_at_call 22; refine cb.mono ?_; clear cb; rintro e w6 ⟨rfl, hb6⟩)
                          have hbC := HBB2.out.trans (hb6.mono HBB2.out.size)
                          have hLTC := HLT.out.keep hbC
                          have hPOK := hLTC.pok.stay hok.out HFP.out HGQ.out (by rw [HOO2.out]; exact HRES.out)
                          go_roundw
                          case rel => exact ⟨j + 1, capJ, hj, GJ, by go_num, by omega, (hLTC.pokk hPOK).congr (fun x' y' z' _ => DJ_next HBJ.out x' y' z'), by have := HCP.out; omega, HB9.out.below hbC, HB10.out.below hbC, HR59.out.below hbC⟩
                          case measure => simp [intOf] <;> omega
                        | true =>
                          go_wp2_with (go_at_call 22; refine cb.mono ?_; clear cb; rintro e w6 ⟨rfl, hb6⟩
                                       have hbC := HBB2.out.trans (hb6.mono HBB2.out.size)
                                       have hLTB := HLT.out.keep hbC
                                       have t0 := (HB16.out.below hb6).cell (j := 0) rfl
                                       have t1 := (HB16.out.below hb6).cell (j := 1) rfl
                                       have t2 := (HBBB.out.below hb6).cell (j := 0) rfl
                                       have t3 := (HBBB.out.below hb6).cell (j := 1) rfl
                                       obtain ⟨wC, hput, hmapC, hgC⟩ := hLTB.nxt.put (by have := HCP.out; unfold maxLen; omega) b x (A3, k + 1, c3, o)
                                       have hpt : (Instr.mapUpdate 52 (.map (some wo.heap.size)) (.agg #[.bool b, .bool x]) (.agg #[.slice A3 (k + 1) c3, .int .i64 (o : Int)])).run Try.prog w6 = .ok () wC := hput
                                       have hPOK := hLTB.pok.put hok.out HFP.out (b := b) (fun q0 e0 hg => by rw [HGQ.out] at hg; injection hg with hg; injection hg with h1 h2; subst h1; subst h2; rw [HOO2.out]; exact HRES.out)
                                       rw [HOO2.out] at hPOK
                                       have hLTC := (hLTB.put (u := (p' ++ [b], o)) hmapC hgC ⟨(HOB.out.below hb6 (Nat.le_refl _)).low hsb, rfl, rfl, ho100, HPL2.out⟩ hPOK).congr (fun x' y' z' _ => DJ_next HBJ.out x' y' z')
                                       have hKR := KR.of_grown hgC (fun cs E z => hLTB.nxt.noCells)
                                       have h9C : BoxV wC _ _ _ := hKR _ _ _ _ (HB9.out.below hbC)
                                       have h10C : BoxV wC _ _ _ := hKR _ _ _ _ (HB10.out.below hbC)
                                       have h59C : BoxV wC _ _ _ := hKR _ _ _ _ (HR59.out.below hbC)
                                       have HLTC := Lib.hid hLTC
                                       have H9C := Lib.hid h9C
                                       have H10C := Lib.hid h10C
                                       have H59C := Lib.hid h59C
                                       clear hput hmapC hgC hPOK hLTC hKR h9C h10C h59C hbC hLTB)
                          go_roundw
                          case rel => exact ⟨j + 1, capJ + 1, _, _, by go_num, by omega, HLTC.out, by have := HCP.out; omega, H9C.out, H10C.out, H59C.out⟩
                          case measure => simp [intOf] <;> omega
              · have hjE : (k < n ∧ j = 2) ∨ (¬ k < n ∧ j = 1) := by have := HM3.out; omega
                have hLTE := hLT.done hjE HGX.out
                have HLTE := Lib.hid hLTE
                clear hLT hLTE hb9 hb10 hr59 hjE hcap3
                first
                  | (have i4 : ¬ (j : Int) < 2 := by have := HM3.out; omega
                     go_wp2)
                  | (have i4 : ¬ (j : Int) < 1 := by have := HM3.out; omega
                     go_wp2)
                go_roundw
                case rel => exact ⟨_, cnt2, capJ, hj, GJ, HLTE.out, by have := HCP.out; have := HM3.out; omega⟩
                case measure => rw [HLTE.out.rng.left_eq, hml]; exact hlt2
    · obtain rfl : N = k := by omega
      have i1 : ¬ (N : Int) < (N : Int) := by omega
      have hN2 : MapOK L n (n + 2) F := by have := hok.out; rw [HN.out] at this; exact this
      obtain ⟨p, d, hF, hpl, hbest⟩ := map_best HLL.out hN2
      cases hf : f false false with
      | none => exact absurd (hrep.none_ hf) (by rw [hF]; simp)
      | some v =>
        obtain ⟨Av, nv, cv, ov⟩ := v
        obtain ⟨q, hFq, hoq, hnq, _, _⟩ := hrep.some_ hf
        simp only at hFq hoq hnq
        subst nv
        rw [hF] at hFq
        injection hFq with hFq
        injection hFq with e1 e2
        subst e1
        subst e2
        have hlook := hmap.look (zeroP wo) false false
        rw [hf] at hlook
        have hlk : (Instr.lookup 52 (.map (some bm)) (.agg #[.bool false, .bool false]) false).run Try.prog wo = .ok (.agg #[.slice Av N cv, .int .i64 (d : Int)]) wo := hlook
        have hcp := hoq.cap
        have c1 : (n : Int) ≤ (cv : Int) := by omega
        have c2 : (0 : Int) ≤ (n : Int) := by omega
        have c3 : n ≤ cv := by omega
        have hnN : n ≤ N := by omega
        have HOQ := Lib.hid hoq
        have HBT := Lib.hid hbest
        have HBL := Lib.hid hbel
        clear hlook hoq hbest hbel hmap hrep hok hN2 hF hf
        go_wp2
        go_quiet (fail)
        go_wp2
        go_ret3
        refine ⟨Av, n, n, _, d, rfl, HBT.out, ?_, ?_⟩
        · refine reads_takeT (N := N) ?_ hnN
          first
            | exact (HOQ.out.alloc _).reads
            | exact ((HOQ.out.alloc _).drewN _).reads
            | exact HOQ.out.reads
            | exact HOQ.out.drew.reads
            | fail
        · first
            | exact HBL.out.alloc HBL.out.size _
            | exact below_drewN (HBL.out.alloc HBL.out.size _) _
            | exact HBL.out
            | exact HBL.out.drew
            | fail
end Go.Proofs.Ytpbffbhebdcpbaa

/-
  pair.put.
-/
import Derived.Test.YtbhhijdpmpcdnaaPab
import Derived.StillTailTactics
set_option linter.unusedVariables false
namespace Go.Proofs.Ytbhhijdpmpcdnaa
open Go.RowKit

theorem add_addP (p : Addr) (a b : Nat) : (p.add a).add b = p.add (a + b) := by
  by_cases h : a = 0
  · subst h; simp [Addr.add]
  · by_cases h2 : b = 0
    · subst h2; simp [Addr.add]
    · simp [Addr.add, h, h2, Nat.add_assoc]
theorem add_offP (p : Addr) (m j : Nat) (hj : j ≠ 0) : p.add (m + j) = ⟨(p.add m).block, (p.add m).off + j, none⟩ := by
  by_cases h : m = 0
  · subst h; simp [Addr.add, hj]
  · simp [Addr.add, h, Nat.add_assoc]
theorem step_cells {w : World} {B n c i : Nat} {ad : Addr} {ws : List StS} {y : StS} (h : OwnQ w B 35 4 (.slice (some ad) n c) (ws.map stC)) (hn : n = ws.length) (hy : ws[i]? = some y) :
    w.cell? (ad.add (i * 4)) = some (.int .i64 y.kind) ∧ w.cell? ⟨(ad.add (i * 4)).block, (ad.add (i * 4)).off + 1, none⟩ = some (.int .i64 y.site) ∧ w.cell? ⟨(ad.add (i * 4)).block, (ad.add (i * 4)).off + 2, none⟩ = some (.int .i64 y.block) ∧ w.cell? ⟨(ad.add (i * 4)).block, (ad.add (i * 4)).off + 3, none⟩ = some (.int .u8 (y.val : Int)) := by
  subst hn
  obtain ⟨ad', xs, e, _, hx, _, hc⟩ := h.reads.at_ (List.getElem?_eq_some_iff.1 hy).1
  injection e with e
  subst e
  rw [List.getElem?_map, hy] at hx
  injection hx with hx
  subst hx
  have d0 := hc 0 _ rfl
  have d1 := hc 1 _ rfl
  have d2 := hc 2 _ rfl
  have d3 := hc 3 _ rfl
  rw [Nat.add_zero] at d0
  rw [add_offP _ _ _ (by decide)] at d1 d2 d3
  exact ⟨d0, d1, d2, d3⟩
theorem LineB.cX {w : World} {b mode s g p k j : Nat} {V : Value} {T : TypeId} {X : List Value} {u : Value} (h : LineB w b V mode s g p k T X) (hu : X[j]? = some u) : w.cell? ⟨b, 6 + j, none⟩ = some u := by
  have h2 : BoxV w b T (Value.int .i64 (mode : Int) :: V :: Value.int .i64 (s : Int) :: Value.int .i64 (g : Int) :: Value.int .i64 (p : Int) :: Value.int .i64 (k : Int) :: X) := h
  exact h2.cell (by rw [Nat.add_comm]; simpa using hu)
set_option maxRecDepth 100000 in
set_option maxHeartbeats 2000000 in
theorem pair_put (B pb d mode since : Nat) (WV : Value) (T0 T1 : Tb) (t : PrT ArP) (w : World) (h : PrR w B pb WV d mode T0 T1 t) (h3 : 3 ≤ d) (h6 : d ≤ 6) (hsp : since ≤ t.p) (hpn : t.p ≤ t.ws.length) (hn : t.ws.length ≤ 100) (hwb : ∀ x ∈ t.ws, 0 ≤ x.block ∧ x.block < 24 ∧ x.val < 256) :
    Calls Try.prog 24 #[.pointer (some ⟨pb, 0, none⟩), .int .i64 (since : Int)] w (fun e w' => e = .returned (.tuple #[]) ∧ PrR w' B pb WV d mode T0 T1 { t with a1 := putW (mvP d) t.a1 ((t.ws.take t.p).drop since) } ∧ Ch w w' (T1.F d)) := by
  obtain ⟨A, c, rfl⟩ := h.wri.form
  rw [List.length_map] at *
  obtain ⟨m, hm⟩ : ∃ m, t.p = since + m := ⟨t.p - since, by omega⟩
  have c1 := h.line.c1
  have c4 := h.line.c4
  have H := Lib.hid h
  have HWB := Lib.hid hwb
  have hcN : t.ws.length ≤ c := by
    rcases h.wri.2 with ⟨e, h0⟩ | ⟨g, off, c', cur, e, e2, e3, e4, _⟩
    · have h9 := congrArg List.length h0
      rw [List.length_map, List.length_nil] at h9
      omega
    · injection e with _ _ ec; subst ec; rwa [List.length_map] at e4
  have HP : Hid ((t.ws.take t.p).drop since = (t.ws.drop since).take m) := by unfold Hid; rw [List.drop_take, hm, Nat.add_sub_cancel_left]
  rw [HP.out]
  have i2 : (since : Int) ≤ (t.p : Int) := by omega
  have i3 : (t.p : Int) ≤ (c : Int) := by omega
  have i4 : (0 : Int) ≤ (since : Int) := by omega
  by_cases hm0 : m = 0
  · subst hm0
    have hm' : t.p = since := hm
    have he : (t.ws.drop since).take 0 = [] := rfl
    rw [he]
    have HC := Lib.hid (show Ch w w (T1.F d) from Ch.refl _ _)
    clear h hwb hm he HP
    by_cases hc : c = since
    all_goals
      go_enter Try.func24, Try.ntmps24
      go_wp2
      go_quiet (fail)
      go_wp2
      go_loopw [19] (fun iv wr => iv = .int .i64 0 ∧ wr = w.drewN nq) (fun iv _ => 0)
      case atStart => exact ⟨rfl, rfl⟩
      case round =>
        obtain ⟨rfl, rfl⟩ := hrel
        go_wp2
        (try simp only [Exit.inBlock, Exit.then])
        exact bodyPost_end (results_none rfl _ _ _) rfl ⟨rfl, H.out.drewN nq, HC.out.drewN nq⟩
  · have i1 : ¬ c = since := by omega
    obtain ⟨ad, ys, rfl, hadb, hx, _, _⟩ := h.wri.reads.at_ (i := since) (by omega)
    clear h hwb hx
    go_enter Try.func24, Try.ntmps24
    go_wp2
    go_quiet (fail)
    go_wp2
    go_loopw [19] (fun iv wr => ∃ k : Nat, k ≤ m ∧ iv = .int .i64 (k : Int) ∧ PrR wr B pb (.slice (some ad) t.ws.length c) d mode T0 T1 { t with a1 := putW (mvP d) t.a1 ((t.ws.drop since).take k) } ∧ Ch w wr (T1.F d)) (fun iv _ => m - (intOf iv).toNat)
    case atStart => exact ⟨0, Nat.zero_le _, rfl, H.out.drewN nq, (Ch.refl _ _).drewN _⟩
    case round =>
      obtain ⟨k, hk, rfl, hr, hch⟩ := hrel
      obtain ⟨wo, rfl⟩ : ∃ x, x = wr := ⟨_, rfl⟩
      by_cases hlt : k < m
      · obtain ⟨⟨yk, ysi, yb, yv⟩, hy⟩ : ∃ y, t.ws[since + k]? = some y := ⟨_, List.getElem?_eq_getElem (by omega)⟩
        obtain ⟨hyb0, hyb8, hyv⟩ := HWB.out _ (List.mem_of_getElem? hy)
        obtain ⟨bb, hbb⟩ : ∃ bb : Nat, yb = (bb : Int) := ⟨yb.toNat, by simp only at hyb0; omega⟩
        subst hbb
        simp only at hyb0 hyb8 hyv
        obtain ⟨d0, d1, d2, d3⟩ := step_cells hr.wri rfl hy
        rw [Nat.add_mul, ← add_addP] at d0 d1 d2 d3
        simp only at d0 d1 d2 d3
        have i5 : (0 : Int) ≤ (k : Int) := by omega
        have i6 : (k : Int) < (m : Int) := by omega
        have hA := hr.alloc (.cells #[.int .i64 yk, .int .i64 ysi, .int .i64 (bb : Int), .int .u8 (yv : Int)] 35)
        have hbx : BoxV (wo.alloc (.cells #[.int .i64 yk, .int .i64 ysi, .int .i64 (bb : Int), .int .u8 (yv : Int)] 35)) wo.heap.size 35 [.int .i64 yk, .int .i64 ysi, .int .i64 (bb : Int), .int .u8 (yv : Int)] := BoxV.new wo _ _
        have x2 := hbx.cell (j := 2) rfl
        have x3 := hbx.cell (j := 3) rfl
        have p6 := hA.line.cX (j := 1) rfl
        have hlA := putW_lt (d := d) ((t.ws.drop since).take k) (a := t.a1) H.out.lt1 (fun m hm => (HWB.out m (List.mem_of_mem_drop (List.mem_of_mem_take hm))).2.2)
        have hsn : (t.ws.drop since).take (k + 1) = (t.ws.drop since).take k ++ [⟨yk, ysi, (bb : Int), yv⟩] := by
          rw [List.take_add_one, List.getElem?_drop, hy]; rfl
        have hst := putW_snoc (mvP d) ((t.ws.drop since).take k) t.a1 ⟨yk, ysi, (bb : Int), yv⟩
        rw [← hsn] at hst
        simp only at hst
        rw [mvP_write _ bb yv (by omega)] at hst
        have HST := Lib.hid hst
        have HCH := Lib.hid hch
        have HA := Lib.hid hA
        generalize hga : putW (mvP d) t.a1 ((t.ws.drop since).take k) = a at *
        have cw := stripe_Write T1.b T1.h d bb yv a.2 T1.gr a.1 (wo.alloc (.cells #[.int .i64 yk, .int .i64 ysi, .int .i64 (bb : Int), .int .u8 (yv : Int)] 35)).drew (TabT.below HA.out.tab1 (Below.drew (Below.refl _ _))) hlA h3 h6 (by omega) hyv
        clear hsn hst hch hA hr hbx hga hy
        go_wp2
        go_region_law (go_simp; go_at_call 28; refine cw.mono ?_; rintro e w2 ⟨rfl, ht2, ho2⟩)
        all_goals
          have hlt2 : ∀ x y, writeD a.1 a.2 d bb yv x y < 256 := by
            have h9 := putW_lt (d := d) ((t.ws.drop since).take (k + 1)) (a := t.a1) H.out.lt1 (fun m hm => (HWB.out m (List.mem_of_mem_drop (List.mem_of_mem_take hm))).2.2)
            rw [HST.out] at h9; exact h9
          have HN := Lib.hid ((HA.out.below (Below.drew (Below.refl _ _))).ch1 (a := (writeD a.1 a.2 d bb yv, a.2)) ht2 ((ho2.toB (hb := T1.h)).toCh (T := T1)) hlt2)
          have HC2 := Lib.hid ((HCH.out.trans (((Ch.refl wo (T1.F d)).alloc (.cells #[.int .i64 yk, .int .i64 ysi, .int .i64 (bb : Int), .int .u8 (yv : Int)] 35)).drew) (fun b _ h => h)).trans ((ho2.toB (hb := T1.h)).toCh (T := T1)) (fun b _ h => h))
          clear ht2 ho2 cw x2 x3 p6 d0 d1 d2 d3 hlA hlt2
          go_wp2
          go_roundw
          case rel => exact ⟨k + 1, by omega, by go_num, by rw [HST.out, ← hm]; exact HN.out, HC2.out⟩
          case measure => simp [intOf] <;> omega
      · obtain rfl : k = m := by omega
        go_wp2
        (try simp only [Exit.inBlock, Exit.then])
        exact bodyPost_end (results_none rfl _ _ _) rfl ⟨rfl, hr, hch⟩
end Go.Proofs.Ytbhhijdpmpcdnaa

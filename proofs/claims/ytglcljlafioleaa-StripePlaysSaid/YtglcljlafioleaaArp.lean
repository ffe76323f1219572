/-
  stripe.Play.
-/
import Derived.Test.YtglcljlafioleaaArd
import Derived.Test.YtglcljlafioleaaStructs
import Derived.BigQuiet
import Derived.Deep.QuietTactic
set_option linter.unusedVariables false
namespace Go.Proofs.Ytglcljlafioleaa
open Go.RowKit

theorem stripe_do (b0 hb d : Nat) (z : Int) (gr : Nat → Nat) (f : Nat → Nat → Nat) (w : World) (h : TabD w b0 hb (rowsD d) d d gr (.int .i64 z) f) (hf : Hid (∀ a b, f a b < 256)) (h3 : 3 ≤ d) (h6 : d ≤ 6) (kind block : Int) (v : Nat) (hv : v < 256) :
    Calls Try.prog 44 #[.pointer (some ⟨hb, 0, none⟩), .agg #[.int .i64 kind, .int .i64 block, .int .u8 (v : Int)]] w (DoMP w b0 hb d gr (doMv d f z kind block v)) := by
  by_cases hk : kind < 1 ∨ 4 < kind
  · exact stripe_doK b0 hb d z gr f w h hf h3 h6 kind block v hk
  · rcases (by omega : kind = 1 ∨ kind = 2 ∨ kind = 3 ∨ kind = 4) with rfl | rfl | rfl | rfl
    · by_cases hb2 : block < 0 ∨ 24 ≤ block
      · exact stripe_doB1 b0 hb d z gr f w h hf h3 h6 block v hb2
      · obtain ⟨b, rfl⟩ := Int.eq_ofNat_of_zero_le (show 0 ≤ block by omega)
        exact stripe_do1 b0 hb d z gr f w h hf h3 h6 b v (by omega) hv
    · by_cases hb2 : block < 0 ∨ 24 ≤ block
      · exact stripe_doB2 b0 hb d z gr f w h hf h3 h6 block v hb2
      · obtain ⟨b, rfl⟩ := Int.eq_ofNat_of_zero_le (show 0 ≤ block by omega)
        exact stripe_do2 b0 hb d z gr f w h hf h3 h6 b v (by omega) hv
    · by_cases hb2 : block < 0 ∨ (d : Int) ≤ block
      · exact stripe_doB3 b0 hb d z gr f w h hf h3 h6 block v hb2
      · obtain ⟨b, rfl⟩ := Int.eq_ofNat_of_zero_le (show 0 ≤ block by omega)
        exact stripe_do3 b0 hb d z gr f w h hf h3 h6 b v (by omega) hv
    · by_cases hb2 : block < 0 ∨ (d : Int) ≤ block
      · exact stripe_doB4 b0 hb d z gr f w h hf h3 h6 block v hb2
      · obtain ⟨b, rfl⟩ := Int.eq_ofNat_of_zero_le (show 0 ≤ block by omega)
        exact stripe_do4 b0 hb d z gr f w h hf h3 h6 b v (by omega) hv
theorem doMv_lt {f : Nat → Nat → Nat} (hf : ∀ a b, f a b < 256) (d : Nat) (z kind block : Int) (v : Nat) (hv : v < 256) : ∀ a b, (doMv d f z kind block v).f a b < 256 := by
  intro a b
  have hzt : zeroTo f block.toNat 0 (rowsD d) a b < 256 := by
    unfold zeroTo
    split
    · omega
    · exact hf a b
  unfold doMv
  repeat' split
  all_goals first
    | exact hf a b
    | exact hzt
    | exact renewTo_lt hf _ _ _ a b
    | exact writeD_lt hf z d _ v hv a b
def mvC (m : Int × Int × Nat) : List Value := [.int .i64 m.1, .int .i64 m.2.1, .int .u8 (m.2.2 : Int)]
def dnC (x : Nat × Nat) : List Value := [.int .i64 (x.1 : Int), .int .u8 (x.2 : Int)]
structure PlT where
  outs : List (Nat × Nat)
  f : Nat → Nat → Nat
  z : Int
/-- the first k moves, played -/
def playD (d : Nat) (l : List (Int × Int × Nat)) : Nat → PlT
  | 0 => ⟨[], fun _ _ => 0, -1⟩
  | k + 1 => match l[k]? with
    | none => playD d l k
    | some m => ⟨(playD d l k).outs ++ [((doMv d (playD d l k).f (playD d l k).z m.1 m.2.1 m.2.2).e, (doMv d (playD d l k).f (playD d l k).z m.1 m.2.1 m.2.2).v)], (doMv d (playD d l k).f (playD d l k).z m.1 m.2.1 m.2.2).f, (doMv d (playD d l k).f (playD d l k).z m.1 m.2.1 m.2.2).z⟩
theorem playD_next {d : Nat} {l : List (Int × Int × Nat)} {k : Nat} {m : Int × Int × Nat} (h : l[k]? = some m) : playD d l (k + 1) = ⟨(playD d l k).outs ++ [((doMv d (playD d l k).f (playD d l k).z m.1 m.2.1 m.2.2).e, (doMv d (playD d l k).f (playD d l k).z m.1 m.2.1 m.2.2).v)], (doMv d (playD d l k).f (playD d l k).z m.1 m.2.1 m.2.2).f, (doMv d (playD d l k).f (playD d l k).z m.1 m.2.1 m.2.2).z⟩ := by
  rw [playD, h]
theorem playD_lt {d : Nat} {l : List (Int × Int × Nat)} (hl : ∀ m ∈ l, m.2.2 < 256) : ∀ k a b, (playD d l k).f a b < 256
  | 0, a, b => by show 0 < 256; omega
  | k + 1, a, b => by
    cases h : l[k]? with
    | none => rw [playD, h]; exact playD_lt hl k a b
    | some m =>
      rw [playD_next h]
      exact doMv_lt (playD_lt hl k) d _ _ _ _ (hl m (List.mem_of_getElem? h)) a b
theorem playD_len (d : Nat) (l : List (Int × Int × Nat)) : ∀ k, (playD d l k).outs.length ≤ k
  | 0 => by simp [playD]
  | k + 1 => by
    have := playD_len d l k
    cases h : l[k]? with
    | none => rw [playD, h]; exact Nat.le_succ_of_le this
    | some m => rw [playD_next h]; simp; omega
theorem OwnK.onlyB {w w' : World} {base k hb d : Nat} {E : TypeId} {v : Value} {xss : List (List Value)} {gr : Nat → Nat} (h : OwnK w base E k v xss) (ho : OnlyB w w' hb d gr) (h1 : hb < base) (h2 : ∀ i, i < d → gr i < base) : OwnK w' base E k v xss := by
  refine ⟨h.1, h.2.1, ?_⟩
  rcases h.2.2 with h3 | ⟨g, cap, cur, e1, e2, e3, e4⟩
  · exact .inl h3
  · refine .inr ⟨g, cap, cur, e1, e2, ?_, e4⟩
    have hg : g < w.heap.size := by
      rcases Nat.lt_or_ge g w.heap.size with hlt | hge
      · exact hlt
      · rw [Array.getElem?_eq_none hge] at e3; cases e3
    rw [ho.block g hg (by omega) (fun i hi e => by have := h2 i hi; omega)]; exact e3
theorem OnlyB.below {w w' : World} {hb d B : Nat} {gr : Nat → Nat} (ho : OnlyB w w' hb d gr) (hB : B ≤ w.heap.size) (h1 : B ≤ hb) (h2 : ∀ i, i < d → B ≤ gr i) : Below B w w' := by
  exact ⟨ho.os, ho.tape, ho.output, ho.size, fun b hb2 => ho.block b (by omega) (by omega) (fun i hi e => by have := h2 i hi; omega)⟩
theorem TabD.kept {w w' : World} {b0 hb r d k base : Nat} {gr : Nat → Nat} {V : Value} {f : Nat → Nat → Nat} {row : Option Nat} (h : TabD w b0 hb r d k gr V f) (hg : w.grownBy w' row) (hr : ∀ q, row = some q → base ≤ q) (h1 : hb < base) (h2 : ∀ i, i < k → gr i < base) : TabD w' b0 hb r d k gr V f := by
  have hord := h.ord
  have hne : ∀ q, q < base → some q ≠ row := fun q hq e => by have := hr q e.symm; omega
  refine ⟨?_, h.col.kept hg (.inr fun e => ?_), fun i hi => (h.row i hi).kept hg (.inr fun e => ?_), h.ord, h.inj⟩
  · rw [hg.block hb h.lt (hne hb h1)]; exact h.box
  · exact hne b0 (by omega) e
  · exact hne (gr i) (h2 i hi) e
theorem add_secondS (p : Addr) (m : Nat) : p.add (m + 1) = ⟨(p.add m).block, (p.add m).off + 1, none⟩ := by
  by_cases h : m = 0
  · subst h; simp [Addr.add]
  · simp [Addr.add, h, Nat.add_assoc]
theorem add_thirdS (p : Addr) (m : Nat) : p.add (m + 2) = ⟨(p.add m).block, (p.add m).off + 2, none⟩ := by
  by_cases h : m = 0
  · subst h; simp [Addr.add]
  · simp [Addr.add, h, Nat.add_assoc]
theorem el_done : ElemK Try.prog 56 103 2 16 := ElemK.mk' (z := .agg #[.int .i64 0, .int .u8 0]) Try.underlying56 (by kernel_rfl) rfl (by omega)
theorem dn_form {w : World} {B m : Nat} {v : Value} {outs : List (Nat × Nat)} {T : TypeId} (h : OwnK w B T 2 v (outs.map dnC)) (hm : outs.length = m) : ∃ A c, v = .slice A m c := by
  obtain ⟨A, c, e⟩ := h.form
  exact ⟨A, c, by rw [e, List.length_map, hm]⟩
theorem dn_snoc (outs : List (Nat × Nat)) (e v : Nat) : outs.map dnC ++ [(#[Value.int .i64 (e : Int), Value.int .u8 (v : Int)] : Array Value).toList] = (outs ++ [(e, v)]).map dnC := by simp [dnC]
set_option maxRecDepth 100000 in
set_option maxHeartbeats 2000000 in
theorem stripe_Play (d : Nat) (A : Option Addr) (n c : Nat) (l : List (Int × Int × Nat)) (w : World) (h : ReadsK w w.heap.size 3 A n (l.map mvC)) (hl : ∀ m ∈ l, m.2.2 < 256) (h3 : 3 ≤ d) (h6 : d ≤ 6) (hn : n ≤ 100) :
    Calls Try.prog 24 #[.int .i64 (d : Int), .slice A n c] w (fun e w' => ∃ A1 n1 c1 b0 hb gr, e = .returned (.tuple #[.slice A1 n1 c1, .slice (some ⟨b0, 0, none⟩) d d, .int .i64 0]) ∧ OwnK w' w.heap.size 103 2 (.slice A1 n1 c1) ((playD d l n).outs.map dnC) ∧ n1 ≤ 100 ∧ TabD w' b0 hb (rowsD d) d d gr (.int .i64 (playD d l n).z) (playD d l n).f ∧ Below w.heap.size w w') := by
  have HR := Lib.hid h
  have HL := Lib.hid hl
  have HN : Hid (l.length = n) := by have := h.len; rwa [List.length_map] at this
  have cn := stripe_New d w h3 h6
  have i64 : ¬ (100 : Int) < (n : Int) := by omega
  clear h hl
  go_enter Try.func24, Try.ntmps24
  go_wp2_with (go_at_call 43; refine cn.mono ?_; clear cn; rintro e w1 ⟨hb, gr, rfl, ht1, hb1⟩)
  have hbs : hb < w1.heap.size := ht1.lt
  have hgs : ∀ i, i < d → gr i < w1.heap.size := fun i hi => ((ht1.row i hi).lt (gr i) rfl).2
  have hbw : w.heap.size < hb := ht1.ord
  have hgw : ∀ i, i < d → w.heap.size ≤ gr i := fun i hi => by have := ht1.ge hi; omega
  have HT1 := Lib.hid ht1
  have HB1 := Lib.hid hb1
  have HGS := Lib.hid hgs
  have HGW := Lib.hid hgw
  clear ht1 hb1 hgs hgw
  go_loopw [8, 26] (fun ov iv wr => ∃ k : Nat, k ≤ n ∧ iv = .int .i64 (k : Int) ∧ TabD wr w.heap.size hb (rowsD d) d d gr (.int .i64 (playD d l k).z) (playD d l k).f ∧ OwnK wr w1.heap.size 103 2 ov ((playD d l k).outs.map dnC) ∧ Below w.heap.size w wr ∧ w1.heap.size ≤ wr.heap.size) (fun _ iv _ => n - (intOf iv).toNat)
  case atStart => exact ⟨0, Nat.zero_le _, rfl, HT1.out, OwnK.nil _ _ _ _, HB1.out, Nat.le_refl _⟩
  case round =>
    obtain ⟨k, hk, rfl, htab, hown, hbel, hsz⟩ := hrel
    obtain ⟨wo, rfl⟩ : ∃ x, x = wr := ⟨_, rfl⟩
    obtain ⟨ov, rfl⟩ : ∃ x, x = u8 := ⟨_, rfl⟩
    by_cases hlt : k < n
    · obtain ⟨ad, xs, rfl, hadb, hx, _, hc⟩ := (HR.out.below hbel).at_ hlt
      rw [List.getElem?_map] at hx
      obtain ⟨⟨kind, block, v⟩, hm, rfl⟩ := Option.map_eq_some_iff.1 hx
      have hv256 : v < 256 := HL.out _ (List.mem_of_getElem? hm)
      have c0 := hc 0 _ rfl
      have c1 := hc 1 _ rfl
      have c2 := hc 2 _ rfl
      rw [Nat.add_zero] at c0
      rw [add_secondS] at c1
      rw [add_thirdS] at c2
      have hnx := playD_next (d := d) hm
      have hlt2 := playD_lt (d := d) HL.out k
      have hol := playD_len d l k
      generalize playD d l k = st at *
      have hB1 : Below wo.heap.size wo (wo.alloc (.cells #[.int .i64 kind, .int .i64 block, .int .u8 (v : Int)] 99)) := (Below.refl _ wo).alloc (Nat.le_refl _) _
      have cd := stripe_do w.heap.size hb d st.z gr st.f _ (htab.same hB1) hlt2 h3 h6 kind block v hv256
      have HOWN := Lib.hid (hown.below hB1 (Nat.le_refl _))
      have HBEL := Lib.hid (hbel.trans (hB1.mono hbel.size))
      have HNX := Lib.hid hnx
      have i0 : (0 : Int) ≤ (k : Int) := by omega
      have i1 : (k : Int) < (n : Int) := by omega
      obtain ⟨t, ht⟩ : ∃ t, doMv d st.f st.z kind block v = t := ⟨_, rfl⟩
      rw [ht] at cd
      have HTT := Lib.hid ht
      clear hx hc hm hnx hlt2 htab hown hbel hB1 ht
      go_wp2_with (first
        | (go_at_call 44; refine cd.mono ?_; clear cd; rintro e w2 ⟨rfl, ht2, ho2⟩; have hown2 := HOWN.out.onlyB ho2 hbs HGS.out; have hs2 := ho2.size)
        | (at_builtin; refine app1K el_done rfl _ _ rfl rfl hown2 #[.int .i64 (t.e : Int), .int .u8 (t.v : Int)] _ (by first | rfl | (go_simp; done) | (go_simp; rfl)) rfl (by simp [Value.oneCell']) (by simp; unfold maxLen; omega) (by simp; omega) (by simp at hs2; omega) ?_; intro v5 w5 ho5 hb5 hg5 hat5))
      rw [dn_snoc] at ho5
      have hnx2 := HNX.out
      rw [HTT.out] at hnx2
      have ht5 := ht2.kept hg5 (fun q hq => (hown2.lt q hq).1) hbs HGS.out
      have hb2 := ho2.below (B := w.heap.size) HBEL.out.size (by omega) HGW.out
      have hbF := (HBEL.out.trans hb2).trans (hb5.mono (by omega))
      have HNX2 := Lib.hid hnx2
      clear hnx2
      go_roundw
      case rel => exact ⟨k + 1, by omega, by go_num, by rw [HNX2.out]; exact ht5, by rw [HNX2.out]; exact ho5, hbF, by have := hb5.size; simp at hs2; omega⟩
      case measure => simp [intOf] <;> omega
    · obtain rfl : n = k := by omega
      have hol := playD_len d l n
      obtain ⟨m, hm⟩ : ∃ m, (playD d l n).outs.length = m := ⟨_, rfl⟩
      obtain ⟨A2, c2, e2⟩ := dn_form hown hm
      subst e2
      have c0 := htab.tab
      have HT := Lib.hid htab
      have HO := Lib.hid hown
      rw [hm] at hol
      clear htab hown hm
      go_wp2
      go_quiet (fail)
      go_wp2
      go_ret3
      exact ⟨A2, m, c2, w.heap.size, hb, gr, rfl, (HO.out.low (B := w.heap.size) (by omega)).drewN _, by omega, HT.out.drewN _, below_drewN hbel _⟩
end Go.Proofs.Ytglcljlafioleaa

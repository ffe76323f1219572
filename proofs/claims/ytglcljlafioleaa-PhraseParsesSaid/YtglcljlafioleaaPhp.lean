/-
  phrase.Parse.
-/
import Derived.Test.YtglcljlafioleaaPhl
import Derived.Test.YtglcljlafioleaaPmap
import Derived.Test.YtglcljlafioleaaStructs
import Derived.Test.YtglcljlafioleaaQuiet
set_option linter.unusedVariables false
namespace Go.Proofs.Ytglcljlafioleaa
open Go.RowKit

theorem el_phr : ElemK Try.prog 23 69 2 16 := ElemK.mk' (z := .agg #[.int .i64 0, .int .u8 0]) Try.underlying23 (by kernel_rfl) rfl (by omega)
def phC (x : Nat × Nat) : List Value := [.int .i64 (x.1 : Int), .int .u8 (x.2 : Int)]
def PhGo (text : List Nat) (i : Nat) (f : Nat → Nat → Option Nat) (pt : Nat) (out : List (Nat × Nat)) : Prop := (i < text.length ∧ ∃ K s, PhSt text i f pt out K s) ∨ (i = text.length ∧ PhR [[]] text out)
theorem PhGo.start (text : List Nat) : PhGo text 0 (fun _ _ => none) 0 [] := by
  rcases Nat.eq_zero_or_pos text.length with h | h
  · right
    obtain rfl := List.eq_nil_of_length_eq_zero h
    exact ⟨rfl, PhR.nil _⟩
  · exact .inl ⟨h, _, _, PhSt.start h⟩
theorem phgo_there {text : List Nat} {i pt c q : Nat} {f : Nat → Nat → Option Nat} {out : List (Nat × Nat)} {K : List (List Nat)} {s : Nat} (h : PhSt text i f pt out K s) (hc : text[i]? = some c) (hq : f pt c = some q) (h2 : i + 1 < text.length) : PhGo text (i + 1) f q out := .inl ⟨h2, K, s, h.there hc hq h2⟩
theorem phgo_last {text : List Nat} {i pt c pt2 : Nat} {f g : Nat → Nat → Option Nat} {out : List (Nat × Nat)} {K : List (List Nat)} {s : Nat} (h : PhSt text i f pt out K s) (hc : text[i]? = some c) (h2 : i + 1 = text.length) : PhGo text (i + 1) g pt2 (out ++ [(pt, c)]) := .inr ⟨h2, h.last hc h2⟩
theorem phgo_fresh {text : List Nat} {i pt c : Nat} {f : Nat → Nat → Option Nat} {out : List (Nat × Nat)} {K : List (List Nat)} {s : Nat} (h : PhSt text i f pt out K s) (hc : text[i]? = some c) (hq : f pt c = none) : PhGo text (i + 1) (fun p d => if p = pt ∧ d = c then some (out.length + 1) else f p d) 0 (out ++ [(pt, c)]) := by
  have := h.hi
  rcases Nat.lt_or_ge (i + 1) text.length with h2 | h2
  · exact .inl ⟨h2, _, _, h.fresh hc hq h2⟩
  · exact phgo_last h hc (by omega)
theorem ph_after {W w2 : World} {b : Nat} {u v : Value} {T : TypeId} {row : Option Nat} (hbox : W.heap[b]? = some (.cells #[u, v] T (0, 0))) (hg : W.grownBy w2 row) (hne : row ≠ some b) : w2.cell? ⟨b, 0, none⟩ = some u ∧ w2.cell? ⟨b, 1, none⟩ = some v := by
  have hlt : b < W.heap.size := (Array.getElem?_eq_some_iff.1 hbox).1
  have h2 := (hg.block b hlt (fun e => hne e.symm)).trans hbox
  exact ⟨by simp [World.cell?, h2], by simp [World.cell?, h2]⟩
theorem ph_map {W w2 : World} {b n : Nat} {f : Nat → Nat → Option Nat} {row : Option Nat} (h : MapP W b n f) (hg : W.grownBy w2 row) (hne : row ≠ some b) : MapP w2 b n f := h.keep (hg.block b h.lt (fun e => hne e.symm))
theorem ph_form {w : World} {B m : Nat} {v : Value} {xss : List (List Value)} {ys : List Value} {T : TypeId} (h : OwnK w B T 2 v (xss ++ [ys])) (hm : m = xss.length + 1) : ∃ A c, v = .slice A m c := by
  obtain ⟨A, c, e⟩ := h.form
  exact ⟨A, c, by rw [e, hm]; simp⟩
theorem ph_snoc (out : List (Nat × Nat)) (pt x : Nat) : out.map phC ++ [(#[Value.int .i64 (pt : Int), Value.int .u8 (x : Int)] : Array Value).toList] = (out ++ [(pt, x)]).map phC := by simp [phC]
set_option maxRecDepth 100000 in
set_option maxHeartbeats 2000000 in
theorem phrase_Parse (A : Option Addr) (n c : Nat) (l : List Nat) (w : World) (h : Reads w w.heap.size A n (vn .u8 l)) (hw : ∀ x ∈ l, x < 256) (hn : n ≤ 64) :
    Calls Try.prog 9 #[.slice A n c] w (fun e w' => ∃ A' n' c' out, e = .returned (.tuple #[.slice A' n' c', .int .i64 0]) ∧ OwnK w' w.heap.size 69 2 (.slice A' n' c') (out.map phC) ∧ PhR [[]] l out ∧ n' ≤ 64 ∧ Below w.heap.size w w') := by
  have H := Lib.hid h.nat_len
  have HW := Lib.hid hw
  have HR := Lib.hid h
  clear hw h
  have hmap0 := MapP.made w
  have hB0 : Below w.heap.size w (w.alloc (.map #[] 0)) := (Below.refl _ _).alloc (Nat.le_refl _) _
  have HM0 := Lib.hid hmap0
  have HB0 := Lib.hid hB0
  clear hmap0 hB0
  have i64 : ¬ (64 : Int) < (n : Int) := by omega
  have hmk := @run_makeMap Try.prog
  go_enter Try.func9, Try.ntmps9
  go_wp2
  go_loopw [5, 6, 18] (fun ov pv iv wr => ∃ (i pt cnt : Nat) (f : Nat → Nat → Option Nat) (out : List (Nat × Nat)), i ≤ n ∧ iv = .int .i64 (i : Int) ∧ pv = .int .i64 (pt : Int) ∧ cnt ≤ i ∧ Hid (PhGo l i f pt out) ∧ MapP wr w.heap.size cnt f ∧ OwnK wr (w.heap.size + 1) 69 2 ov (out.map phC) ∧ Below w.heap.size w wr ∧ w.heap.size < wr.heap.size ∧ out.length ≤ i) (fun _ _ iv _ => n - (intOf iv).toNat)
  case atStart => exact ⟨0, 0, 0, _, [], Nat.zero_le _, rfl, rfl, Nat.le_refl _, PhGo.start l, HM0.out, OwnK.nil _ _ _ _, HB0.out, by simp, by simp⟩
  case round =>
    obtain ⟨i, pt, cnt, f, out, hi, rfl, rfl, hcnt, hgo, hmap, hown, hbel, hsz, hol⟩ := hrel
    obtain ⟨wo, rfl⟩ : ∃ x, x = wr := ⟨_, rfl⟩
    obtain ⟨ov, rfl⟩ : ∃ x, x = u5 := ⟨_, rfl⟩
    by_cases hlt : i < n
    · rcases hgo.out with ⟨hil, K, s, hst⟩ | ⟨hil, _⟩
      · obtain ⟨ad, x, rfl, hb, hx, hc⟩ := (HR.out.below hbel).nat_at hlt
        have hx256 := HW.out x (mem_at hx)
        have hpt := hst.ptLt
        have HX := Lib.hid hx
        have HST := Lib.hid hst
        have HMAP := Lib.hid hmap
        have HOWN := Lib.hid hown
        have HBEL := Lib.hid hbel
        have i0 : (0 : Int) ≤ (i : Int) := by omega
        have i1 : (i : Int) < (n : Int) := by omega
        clear hgo hil hst hmap hown hbel hx
        obtain ⟨m, hm⟩ : ∃ m, m = out.length + 1 := ⟨_, rfl⟩
        have hm65 : m ≤ 65 := by omega
        have HMM := Lib.hid hm
        obtain ⟨W1, hW1⟩ : ∃ W1, W1 = wo.alloc (.cells #[.int .i64 (pt : Int), .int .u8 (x : Int)] 69) := ⟨_, rfl⟩
        have hB1 : Below wo.heap.size wo W1 := by rw [hW1]; exact (Below.refl _ wo).alloc (Nat.le_refl _) _
        have hs1 : W1.heap.size = wo.heap.size + 1 := by rw [hW1]; simp
        have hbox1 : W1.heap[wo.heap.size]? = some (.cells #[.int .i64 (pt : Int), .int .u8 (x : Int)] 69 (0, 0)) := by rw [hW1]; exact heap_alloc_new wo _
        have hmap1 : MapP W1 w.heap.size cnt f := HMAP.out.keep (hB1.block _ hsz)
        have hown1 : OwnK W1 (w.heap.size + 1) 69 2 ov (out.map phC) := HOWN.out.below hB1 (Nat.le_refl _)
        have hbel1 : Below w.heap.size w W1 := HBEL.out.trans (hB1.mono (by omega))
        have hovlt : ∀ b, ov.ownBlock = some b → w.heap.size + 1 ≤ b ∧ b < wo.heap.size := HOWN.out.lt
        have hlook := hmap1.look_ok (Try.zeroValue3 _) pt x (by omega) hx256
        have HB1 := Lib.hid hB1
        have HS1 := Lib.hid hs1
        have HBX1 := Lib.hid hbox1
        have HM1 := Lib.hid hmap1
        have HO1 := Lib.hid hown1
        have HBE1 := Lib.hid hbel1
        have HOV := Lib.hid hovlt
        clear hB1 hs1 hbox1 hmap1 hown1 hbel1 hovlt hm
        subst hW1
        cases hq : f pt x with
        | none =>
          rw [hq] at hlook
          have HGO : Hid (PhGo l (i + 1) (fun p d => if p = pt ∧ d = x then some m else f p d) 0 (out ++ [(pt, x)])) := by unfold Hid; rw [HMM.out]; exact phgo_fresh HST.out HX.out hq
          have HQ := Lib.hid hq
          have hl2 : (Option.none : Option Nat).getD 0 = 0 := rfl
          have hl3 : (Option.none : Option Nat).isSome = false := rfl
          rw [hl2, hl3] at hlook
          clear hq hl2 hl3
          go_wp2_with (at_builtin; refine app1K el_phr rfl _ _ rfl rfl HO1.out #[.int .i64 (pt : Int), .int .u8 (x : Int)] _ (by first | rfl | (go_simp; done) | (go_simp; rfl)) rfl (by simp [Value.oneCell']) (by simp; unfold maxLen; omega) (by simp; omega) (by have := HS1.out; omega) ?_; intro v2 w2 ho2 hb2 hg2 hat2; obtain ⟨A2, c2, e2⟩ := ph_form ho2 (m := m) (by rw [HMM.out]; simp); subst e2; rw [ph_snoc] at ho2; have hne1 : ov.ownBlock ≠ some wo.heap.size := (fun e => by have := (HOV.out _ e).2; omega); have hne2 : ov.ownBlock ≠ some w.heap.size := (fun e => by have := (HOV.out _ e).1; omega); obtain ⟨q1, q2⟩ := ph_after HBX1.out hg2 hne1; obtain ⟨w3, hput, hm3, hg3⟩ := (ph_map HM1.out hg2 hne2).put (by unfold maxLen; omega) pt x (by omega) hx256 m (by omega))
          have hne3 : (Value.slice A2 m c2).ownBlock ≠ some w.heap.size := fun e => by have := (ho2.lt _ e).1; omega
          have ho3 := ho2.kept hg3 (.inr hne3)
          have hb3 : Below w.heap.size w w3 := (HBE1.out.trans (hb2.mono (by omega))).grown hg3 (by have := hb2.size; have := HS1.out; omega) (fun k hk => by injection hk with hk; omega)
          go_roundw
          case rel => exact ⟨i + 1, 0, cnt + 1, _, out ++ [(pt, x)], by omega, by go_num, rfl, by omega, HGO, hm3, ho3, hb3, by have := hg3.size; have := hb2.size; have := HS1.out; omega, by simp; omega⟩
          case measure => simp [intOf] <;> omega
        | some q =>
          rw [hq] at hlook
          have hl2 : (Option.some q : Option Nat).getD 0 = q := rfl
          have hl3 : (Option.some q : Option Nat).isSome = true := rfl
          rw [hl2, hl3] at hlook
          by_cases hend : i + 1 < n
          · have HGO : Hid (PhGo l (i + 1) f q out) := phgo_there HST.out HX.out hq (by rw [H.out]; exact hend)
            have i2 : (i : Int) + 1 < (n : Int) := by omega
            clear hq hl2 hl3
            go_wp2
            go_roundw
            case rel => exact ⟨i + 1, q, cnt, f, out, by omega, by go_num, rfl, by omega, HGO, HM1.out, HO1.out, HBE1.out, by have := HS1.out; omega, by omega⟩
            case measure => simp [intOf] <;> omega
          · have HGO : Hid (PhGo l (i + 1) f 0 (out ++ [(pt, x)])) := phgo_last HST.out HX.out (by rw [H.out]; omega)
            have i2 : ¬ (i : Int) + 1 < (n : Int) := by omega
            clear hq hl2 hl3
            go_wp2_with (at_builtin; refine app1K el_phr rfl _ _ rfl rfl HO1.out #[.int .i64 (pt : Int), .int .u8 (x : Int)] _ (by first | rfl | (go_simp; done) | (go_simp; rfl)) rfl (by simp [Value.oneCell']) (by simp; unfold maxLen; omega) (by simp; omega) (by have := HS1.out; omega) ?_; intro v2 w2 ho2 hb2 hg2 hat2; obtain ⟨A2, c2, e2⟩ := ph_form ho2 (m := m) (by rw [HMM.out]; simp); subst e2; rw [ph_snoc] at ho2; have hne2 : ov.ownBlock ≠ some w.heap.size := (fun e => by have := (HOV.out _ e).1; omega); have hm2 := ph_map HM1.out hg2 hne2)
            go_roundw
            case rel => exact ⟨i + 1, 0, cnt, f, out ++ [(pt, x)], by omega, by go_num, rfl, by omega, HGO, hm2, ho2, HBE1.out.trans (hb2.mono (by omega)), by have := hb2.size; have := HS1.out; omega, by simp; omega⟩
            case measure => simp [intOf] <;> omega
      · have := H.out
        omega
    · obtain rfl : n = i := by omega
      rcases hgo.out with ⟨hil, _⟩ | ⟨_, hdone⟩
      · have := H.out
        omega
      · obtain ⟨A2, c2, e2⟩ := hown.form
        rw [List.length_map] at e2
        subst e2
        have hol2 : out.length ≤ 64 := by omega
        have HD := Lib.hid hdone
        have HOWN := Lib.hid hown
        clear hgo hdone hown hmap
        obtain ⟨m, hm⟩ : ∃ m, out.length = m := ⟨_, rfl⟩
        rw [hm] at hol2 HOWN ⊢
        clear hm
        go_wp2
        go_ret2
        exact ⟨A2, m, c2, out, rfl, HOWN.out.low (by omega), HD.out, hol2, hbel⟩
end Go.Proofs.Ytglcljlafioleaa

/-
  quipuref.trees walked.
-/
import Derived.Test.YtglcljlafioleaaAltr
set_option linter.unusedVariables false
namespace Go.Proofs.Ytglcljlafioleaa
open Go.RowKit

theorem el_rowsT : Elem Try.prog 77 38 (.slice none 0 0) 24 := Elem.mk' Try.underlying77 (by kernel_rfl) rfl
theorem el_intT : Elem Try.prog 38 3 (.int .i64 0) 8 := Elem.mk' Try.underlying38 (by kernel_rfl) rfl
def RetT (w : World) (xss : List (List Nat)) (e : Ending) (w' : World) : Prop :=
  ∃ A m c, e = .returned (.slice A m c) ∧ OwnB w' w.heap.size 38 (.slice A m c) (xss.map (vn .i64)) ∧ Below w.heap.size w w'
/-- a row that lies apart from the block g -/
def OneG (w : World) (A : Option Addr) (n : Nat) (xs : List Value) (g : Option Nat) : Prop := Reads w w.heap.size A n xs ∧ ∀ p, A = some p → g ≠ some p.block
section
variable {w w' : World} {A : Option Addr} {n : Nat} {xs : List Value} {g g' : Option Nat}
theorem OneG.same (h : OneG w A n xs g) (hb : Below w.heap.size w w') : OneG w' A n xs g := ⟨(h.1.below hb).more hb.size, h.2⟩
theorem OneG.kept (h : OneG w A n xs g) (hg : w.grownBy w' g) (hat : g' = g ∨ g' = some w.heap.size ∨ g' = some (w.heap.size + 1)) (hn : 0 < n) : OneG w' A n xs g' := by
  refine ⟨(h.1.keepNe hg (Nat.le_refl _) (fun ad e => h.2 ad e)).more hg.size, fun p e => ?_⟩
  obtain ⟨ad, e2, hb, _⟩ := h.1.cells hn
  rw [e] at e2
  injection e2 with e2
  subst e2
  rcases hat with h1 | h1 | h1
  · rw [h1]; exact h.2 p e
  · rw [h1]; intro e3; injection e3 with e3; omega
  · rw [h1]; intro e3; injection e3 with e3; omega
end
theorem OwnG.kept1 {w w' : World} {base : Nat} {E : TypeId} {v : Value} {xss : List (List Value)} {g g' : Option Nat} (h : OwnG w base E v xss g) (hg : w.grownBy w' g) (hat : g' = g ∨ g' = some (w.heap.size + 1)) (hlt : ∀ b, g' = some b → b < w'.heap.size) : OwnG w' base E v xss g' := by
  rcases hat with h1 | h1
  · exact h.kept hg (.inl h1) hlt
  · obtain ⟨vs, ho, hr, ha⟩ := h.kept hg (.inl rfl) (fun b e => by
      obtain ⟨vs, ho, hr, ha⟩ := h
      exact Nat.lt_of_lt_of_le (ha b e).2.1 hg.size)
    obtain ⟨vs0, ho0, hr0, ha0⟩ := h
    refine ⟨vs0, ho0.kept hg ?_, hr0.keptNe hg ha0, fun b e => ⟨?_, hlt b e, fun k A n c hk => ?_⟩⟩
    · cases hv : v.ownBlock with
      | none => exact .inl rfl
      | some q => exact .inr fun e => (ha0 q e.symm).1 hv
    · intro e2
      have h2 := (Own.lt ho0 b e2).2
      rw [h1] at e
      injection e with e
      omega
    · intro e2
      rw [h1] at e
      injection e with e
      have hk2 : k < xss.length := by rw [← hr0.1]; exact (List.getElem?_eq_some_iff.1 hk).1
      obtain ⟨A', n', c', h1', _, _, h4⟩ := hr0.2 k _ (List.getElem?_eq_getElem hk2)
      rw [hk] at h1'
      injection h1' with h1'
      injection h1' with h5 h6 h7
      have := (h4 A h5.symm).2
      omega
def upL (a b : List Nat) : List Nat := (a ++ b).map (· + 1)
theorem Own.withinJ {w : World} {base n c : Nat} {E : TypeId} {A : Option Addr} {xs : List Value} (h : Own w base E (.slice A n c) xs) : ∀ ad, A = some ad → ad.block < w.heap.size := by
  intro ad e
  subst e
  exact (Own.lt h ad.block rfl).2
set_option maxRecDepth 100000 in
set_option maxHeartbeats 4000000 in
theorem ref_trees : ∀ n : Nat, n ≤ 8 → ∀ w : World, Calls Try.prog 32 #[.int .i64 (n : Int)] w (RetT w (treesL n)) := by
  intro n
  induction n using Nat.strongRecOn with
  | ind n ih =>
    intro hn w
    match n, hn, ih with
    | 0, _, _ =>
      go_enter Try.func32, Try.ntmps32
      go_wp2
      go_ret
      have ho0 : Own (w.alloc (.cells #[.slice none 0 0] 38)) w.heap.size 38 (.slice (some ⟨w.heap.size, 0, none⟩) 1 1) [.slice none 0 0] := Own.built w #[.slice none 0 0] 1 rfl (by unfold maxLen; omega) (Nat.le_refl _)
      refine ⟨_, 1, 1, rfl, ⟨_, ho0, ⟨rfl, fun k xs hk => ?_⟩, fun k A n c hk => ?_⟩, (Below.refl _ _).alloc (Nat.le_refl _) _⟩
      · rcases k with _ | k
        · simp [treesL_zero] at hk
          subst hk
          exact ⟨none, 0, 0, rfl, Reads.none_, by simp, fun ad e => by cases e⟩
        · simp [treesL_zero] at hk
      · rcases k with _ | k
        · simp at hk
        · simp at hk
    | 1, _, _ =>
      go_enter Try.func32, Try.ntmps32
      go_wp2
      go_ret
      have ho1 : Own (w.alloc (.cells #[.int .i64 0] 3)) w.heap.size 3 (.slice (some ⟨w.heap.size, 0, none⟩) 1 1) [.int .i64 0] := Own.built w #[.int .i64 0] 1 rfl (by unfold maxLen; omega) (Nat.le_refl _)
      have ho0 := Own.built (E := 38) (base := w.heap.size) (w.alloc (.cells #[.int .i64 0] 3)) #[.slice (some ⟨w.heap.size, 0, none⟩) 1 1] 1 rfl (by unfold maxLen; omega) (by simp)
      have hs1 : (w.alloc (.cells #[.int .i64 0] 3)).heap.size = w.heap.size + 1 := by simp
      rw [hs1] at ho0
      refine ⟨_, 1, 1, rfl, ⟨_, ho0, ⟨rfl, fun k xs hk => ?_⟩, fun k A n c hk => ?_⟩, ((Below.refl _ _).alloc (Nat.le_refl _) _).alloc (by simp) _⟩
      · rcases k with _ | k
        · simp [treesL_one] at hk
          subst hk
          refine ⟨_, 1, 1, rfl, ?_, by unfold maxLen; omega, fun ad e => ?_⟩
          · have := ho1.reads.alloc (Nat.le_refl _) (.cells #[.slice (some ⟨w.heap.size, 0, none⟩) 1 1] 38)
            exact this.more (by simp)
          · injection e with e
            subst e
            exact ⟨by simp [Value.ownBlock], by simp; omega⟩
        · simp [treesL_one] at hk
      · rcases k with _ | k
        · simp at hk
          obtain ⟨e, _, _⟩ := hk
          subst e
          exact Nat.le_refl _
        · simp at hk
    | n + 2, hn, ih =>
      have HIH := Lib.hid ih
      clear ih
      have i00 : ((n + 2 : Nat) : Int) = (n : Int) + 2 := by omega
      have t0 : (((n + 2 : Nat) : Int) == 0) = false := by simp; omega
      have t1 : (((n + 2 : Nat) : Int) == 1) = false := by simp; omega
      obtain ⟨N, hN⟩ : ∃ N : Nat, N = n + 2 := ⟨_, rfl⟩
      rw [← hN] at t0 t1 hn ⊢
      have HN := Lib.hid hN
      have hN2 : 2 ≤ N := by omega
      clear i00 hN
      go_enter Try.func32, Try.ntmps32
      go_wp2
      go_loopw [3, 4] (fun ov kv wr => ∃ (kk : Nat) (xs : List (List Nat)), kk + 1 ≤ N ∧ kv = .int .i64 ((kk + 1 : Nat) : Int) ∧ OwnB wr w.heap.size 38 ov (xs.map (vn .i64)) ∧ Below w.heap.size w wr ∧ Hid (xs = (List.range kk).flatMap (treesK n)) ∧ xs.length ≤ kk * 184041) (fun _ kv _ => N - (intOf kv).toNat)
      case atStart => exact ⟨0, [], by omega, by simp, OwnB.nil _ _ _, Below.refl _ _, rfl, by simp⟩
      case round =>
        obtain ⟨kk, xs, hkk, rfl, hown, hbel, hxs, hxl⟩ := hrel
        obtain ⟨wa, rfl⟩ : ∃ x, x = wr := ⟨_, rfl⟩
        obtain ⟨ov, rfl⟩ : ∃ x, x = u3 := ⟨_, rfl⟩
        by_cases hlt : kk + 1 < N
        · have ca := HIH.out (kk + 1) (by have := HN.out; omega) (by omega) wa
          obtain ⟨Ta, hTa⟩ : ∃ Ta, treesL (kk + 1) = Ta := ⟨_, rfl⟩
          rw [hTa] at ca
          have hTal : Ta.length ≤ 429 := by rw [← hTa]; exact (treesL_many ⟨kk + 1, by omega⟩).1
          have hTax : Hid (∀ l ∈ Ta, l.length = kk + 1 ∧ ∀ x ∈ l, x ≤ 8) := fun l hl => by
            rw [← hTa] at hl
            exact ⟨treesL_len _ (by omega) l hl, fun x hx => Nat.le_trans (treesL_le _ (by omega) l hl x hx) (by omega)⟩
          have i1 : ((kk + 1 : Nat) : Int) < (N : Int) := by omega
          have i2 : (kk : Int) + 1 < (N : Int) := by omega
          obtain ⟨j, hj⟩ : ∃ j, N - (kk + 1) = j := ⟨_, rfl⟩
          have hji : (N : Int) - ((kk + 1 : Nat) : Int) = (j : Int) := by omega
          have hji2 : (N : Int) - ((kk : Int) + 1) = (j : Int) := by omega
          obtain ⟨Tb, hTb⟩ : ∃ Tb, treesL j = Tb := ⟨_, rfl⟩
          have cb := fun W => HIH.out j (by have := HN.out; omega) (by omega) W
          rw [hTb] at cb
          have hTbl : Tb.length ≤ 429 := by rw [← hTb]; exact (treesL_many ⟨j, by omega⟩).1
          have hTbx : Hid (∀ l ∈ Tb, l.length = j ∧ ∀ x ∈ l, x ≤ 8) := fun l hl => by
            rw [← hTb] at hl
            exact ⟨treesL_len _ (by omega) l hl, fun x hx => Nat.le_trans (treesL_le _ (by omega) l hl x hx) (by omega)⟩
          have hK : Hid (treesK n kk = Ta.flatMap fun a => Tb.map (upL a)) := by
            unfold Hid treesK upL
            rw [hTa, show n + 1 - kk = j by have := HN.out; omega, hTb]
          have hj8 : 0 < j := by omega
          have HOWN := Lib.hid hown
          have HBEL := Lib.hid hbel
          clear hTa hTb hj hown hbel
          go_wp2_with (go_at_call 32; refine ca.mono ?_; clear ca; rintro e w1 ⟨A1, m1, c1, rfl, ho1, hb1⟩)
          obtain ⟨A1', c1', e1⟩ := ho1.ownR.form
          have hm1 : m1 = Ta.length := by injection e1 with _ e1 _; rw [e1, List.length_map]
          clear e1
          have hG1 : OwnG w1 wa.heap.size 38 (.slice A1 m1 c1) (Ta.map (vn .i64)) ov.ownBlock := ho1.apart HOWN.out.blockLt hb1.size
          have hO1 := HOWN.out.same hb1
          have hB1 := HBEL.out.trans (hb1.mono HBEL.out.size)
          have HM1 := Lib.hid hm1
          have HG1 := Lib.hid hG1
          have HO1 := Lib.hid hO1
          have HB1 := Lib.hid hB1
          have hm429 : m1 ≤ 429 := by omega
          clear ho1 hb1 hm1 hG1 hO1 hB1 HOWN HBEL
          go_loopw [3, 29] (fun ov iv wr => ∃ (ia : Nat) (ys : List (List Nat)), ia ≤ m1 ∧ iv = .int .i64 (ia : Int) ∧ OwnB wr w.heap.size 38 ov (ys.map (vn .i64)) ∧ OwnG wr wa.heap.size 38 (.slice A1 m1 c1) (Ta.map (vn .i64)) ov.ownBlock ∧ Below w.heap.size w wr ∧ Hid (ys = xs ++ (Ta.take ia).flatMap fun a => Tb.map (upL a)) ∧ ys.length ≤ kk * 184041 + ia * 429) (fun _ iv _ => m1 - (intOf iv).toNat)
          case atStart => exact ⟨0, xs, Nat.zero_le _, rfl, HO1.out, HG1.out, HB1.out, by unfold Hid; simp, Nat.le_trans hxl (Nat.le_add_right _ _)⟩
          case round =>
            obtain ⟨ia, ys, hia, rfl, hown, hGa, hbel, hys, hyl⟩ := hrel
            clear HO1 HG1 HB1
            obtain ⟨wb, rfl⟩ : ∃ x, x = wr := ⟨_, rfl⟩
            obtain ⟨oq, rfl⟩ : ∃ x, x = u3 := ⟨_, rfl⟩
            by_cases hlt2 : ia < m1
            · have hgb := hown.blockLt
              obtain ⟨ad1, xa, A2, n2, c2, e1, hxa, hca, hra, hn2, hap⟩ := hGa.row hlt2
              subst e1
              rw [List.getElem?_map] at hxa
              obtain ⟨a, ha, rfl⟩ := Option.map_eq_some_iff.1 hxa
              obtain ⟨hal, hax⟩ := hTax.out a (mem_at ha)
              have hn2a : n2 = a.length := by rw [← hra.nat_len]
              have HGa := Lib.hid hGa
              have HOa := Lib.hid (show OneG wb A2 n2 (vn .i64 a) oq.ownBlock from ⟨hra, hap⟩)
              have HOWN := Lib.hid hown
              have HBEL := Lib.hid hbel
              have HNA := Lib.hid hn2a
              have HAL := Lib.hid hal
              have HAX := Lib.hid hax
              have n2p : 0 < n2 := by omega
              have n28 : n2 ≤ 8 := by omega
              have HYA : Hid (xs ++ (Ta.take (ia + 1)).flatMap (fun a => Tb.map (upL a)) = ys ++ Tb.map (upL a)) := by
                unfold Hid
                rw [hys.out, take_next ha, List.flatMap_append, List.append_assoc]
                simp
              have i3 : (ia : Int) < (m1 : Int) := by omega
              clear hGa hra hap hown hbel hn2a hxa ha hal hax hn2
              go_wp2_with (go_at_call 32; refine (cb _).mono ?_; clear cb; rintro e w3 ⟨A3, m3, c3, rfl, ho3, hb3⟩)
              obtain ⟨A3', c3', e3⟩ := ho3.ownR.form
              have hm3 : m3 = Tb.length := by injection e3 with _ e3 _; rw [e3, List.length_map]
              clear e3
              have hG3 : OwnG w3 wb.heap.size 38 (.slice A3 m3 c3) (Tb.map (vn .i64)) oq.ownBlock := ho3.apart hgb hb3.size
              have HG3 := Lib.hid hG3
              have HM3 := Lib.hid hm3
              have HGa3 := Lib.hid (HGa.out.same hb3)
              have HOa3 := Lib.hid (HOa.out.same hb3)
              have HO3 := Lib.hid (HOWN.out.same hb3)
              have HB3 := Lib.hid (HBEL.out.trans (hb3.mono HBEL.out.size))
              have hm3b : m3 ≤ 429 := by omega
              clear ho3 hb3 hm3 hG3 HGa HOa HOWN HBEL hgb
              go_loopw [3, 38] (fun ov iv wr => ∃ (ib : Nat) (zs : List (List Nat)), ib ≤ m3 ∧ iv = .int .i64 (ib : Int) ∧ OwnB wr w.heap.size 38 ov (zs.map (vn .i64)) ∧ OwnG wr wa.heap.size 38 (.slice (some ad1) m1 c1) (Ta.map (vn .i64)) ov.ownBlock ∧ OneG wr A2 n2 (vn .i64 a) ov.ownBlock ∧ OwnG wr wb.heap.size 38 (.slice A3 m3 c3) (Tb.map (vn .i64)) ov.ownBlock ∧ Below w.heap.size w wr ∧ Hid (zs = ys ++ (Tb.take ib).map (upL a)) ∧ zs.length ≤ kk * 184041 + ia * 429 + ib) (fun _ iv _ => m3 - (intOf iv).toNat)
              case atStart => exact ⟨0, ys, Nat.zero_le _, rfl, HO3.out, HGa3.out, HOa3.out, HG3.out, HB3.out, by unfold Hid; simp, Nat.le_trans hyl (Nat.le_add_right _ _)⟩
              case round =>
                obtain ⟨ib, zs, hib, rfl, hown, hGa, hOa, hGb, hbel, hzs, hzl⟩ := hrel
                clear HO3 HGa3 HOa3 HG3 HB3
                obtain ⟨wc, rfl⟩ : ∃ x, x = wr := ⟨_, rfl⟩
                obtain ⟨op, rfl⟩ : ∃ x, x = u3 := ⟨_, rfl⟩
                by_cases hlt3 : ib < m3
                · have hgc := hown.blockLt
                  obtain ⟨ad3, xb, A4, n4, c4, e1, hxb, hcb, hrb, hn4, hapb⟩ := hGb.row hlt3
                  subst e1
                  rw [List.getElem?_map] at hxb
                  obtain ⟨b, hb, rfl⟩ := Option.map_eq_some_iff.1 hxb
                  obtain ⟨hbl, hbx⟩ := hTbx.out b (mem_at hb)
                  have hn4b : n4 = b.length := by rw [← hrb.nat_len]
                  have HGa := Lib.hid hGa
                  have HGb := Lib.hid hGb
                  have HOa := Lib.hid hOa
                  have HRB := Lib.hid hrb
                  have HOWN := Lib.hid hown
                  have HBEL := Lib.hid hbel
                  have HNB := Lib.hid hn4b
                  have HBX := Lib.hid hbx
                  have n48 : n4 ≤ 8 := by omega
                  have HZ : Hid (zs ++ [upL a b] = ys ++ (Tb.take (ib + 1)).map (upL a)) := by
                    unfold Hid
                    rw [hzs.out, take_next hb, List.map_append, List.append_assoc]
                    simp
                  have i4 : (ib : Int) < (m3 : Int) := by omega
                  clear hGa hGb hOa hrb hown hbel hn4b hxb hb hbl hbx hn4 hapb
                  go_wp2
                  go_loopw [9, 44] (fun lv tv wx => ∃ t : Nat, t ≤ n2 ∧ tv = .int .i64 (t : Int) ∧ Own wx wc.heap.size 3 lv (vn .i64 ((a.take t).map (· + 1))) ∧ Below wc.heap.size wc wx) (fun _ tv _ => n2 - (intOf tv).toNat)
                  case atStart => exact ⟨0, Nat.zero_le _, rfl, by simpa using Own.nil _ _ _, Below.refl _ _⟩
                  case round =>
                    obtain ⟨t, ht, rfl, hlo, hbx⟩ := hrel
                    by_cases hlt4 : t < n2
                    · obtain ⟨adx, x, ex, _, hx, hcx⟩ := (HOa.out.1.below hbx).nat_at hlt4
                      subst ex
                      have hx8 := HAX.out x (mem_at hx)
                      have hll : (vn .i64 ((a.take t).map (· + 1))).length ≤ 8 := by rw [List.length_map, List.length_map]; exact Nat.le_trans (List.length_take_le _ _) (by omega)
                      have HNX : Hid (vn .i64 ((a.take t).map (· + 1)) ++ [Value.int .i64 ((x : Int) + 1)] = vn .i64 ((a.take (t + 1)).map (· + 1))) := by
                        unfold Hid
                        rw [take_next hx, List.map_append]
                        simp [vn]
                      have i5 : (t : Int) < (n2 : Int) := by omega
                      clear hx
                      go_wp2_with (at_builtin; refine app1 el_intT rfl _ _ rfl rfl hlo _ _ rfl rfl (by unfold maxLen; omega) (by omega) hbx.size ?_; intro v7 w7 ho7 hb7 _ _)
                      rw [HNX.out] at ho7
                      go_roundw
                      case rel => exact ⟨t + 1, by omega, by go_num, ho7, hbx.trans hb7⟩
                      case measure => simp [intOf] <;> omega
                    · obtain rfl : n2 = t := by omega
                      have HA1 : Hid ((a.take n2).map (· + 1) = a.map (· + 1)) := by unfold Hid; rw [List.take_of_length_le (by rw [← HNA.out]; exact Nat.le_refl _)]
                      rw [HA1.out] at hlo
                      have HLO := Lib.hid hlo
                      have HBX4 := Lib.hid hbx
                      have hal2 : a.length = n2 := HNA.out.symm
                      have HAL2 := Lib.hid hal2
                      clear hlo hbx hal2
                      go_wp2
                      go_loopw [9, 56] (fun lv tv wx => ∃ t : Nat, t ≤ n4 ∧ tv = .int .i64 (t : Int) ∧ Own wx wc.heap.size 3 lv (vn .i64 (a.map (· + 1) ++ (b.take t).map (· + 1))) ∧ Below wc.heap.size wc wx) (fun _ tv _ => n4 - (intOf tv).toNat)
                      case atStart => exact ⟨0, Nat.zero_le _, rfl, by simpa using HLO.out, HBX4.out⟩
                      case round =>
                        obtain ⟨t, ht, rfl, hlo, hbx⟩ := hrel
                        clear HLO HBX4
                        by_cases hlt5 : t < n4
                        · obtain ⟨adx, x, ex, _, hx, hcx⟩ := (HRB.out.below hbx).nat_at hlt5
                          subst ex
                          have hx8 := HBX.out x (mem_at hx)
                          have hll : (vn .i64 (a.map (· + 1) ++ (b.take t).map (· + 1))).length ≤ 16 := by
                            rw [List.length_map, List.length_append, List.length_map, List.length_map, HAL2.out]
                            have := List.length_take_le t b
                            omega
                          have HNX : Hid (vn .i64 (a.map (· + 1) ++ (b.take t).map (· + 1)) ++ [Value.int .i64 ((x : Int) + 1)] = vn .i64 (a.map (· + 1) ++ (b.take (t + 1)).map (· + 1))) := by
                            unfold Hid
                            rw [take_next hx, List.map_append]
                            simp [vn]
                          have i5 : (t : Int) < (n4 : Int) := by omega
                          clear hx
                          go_wp2_with (at_builtin; refine app1 el_intT rfl _ _ rfl rfl hlo _ _ rfl rfl (by unfold maxLen; omega) (by omega) hbx.size ?_; intro v7 w7 ho7 hb7 _ _)
                          rw [HNX.out] at ho7
                          go_roundw
                          case rel => exact ⟨t + 1, by omega, by go_num, ho7, hbx.trans hb7⟩
                          case measure => simp [intOf] <;> omega
                        · obtain rfl : n4 = t := by omega
                          have HU : Hid (a.map (· + 1) ++ (b.take n4).map (· + 1) = upL a b) := by unfold Hid upL; rw [List.take_of_length_le (by rw [← HNB.out]; exact Nat.le_refl _), List.map_append]
                          rw [HU.out] at hlo
                          obtain ⟨A6, c6, e6⟩ := hlo.form
                          obtain ⟨L, hL⟩ : ∃ L, (vn .i64 (upL a b)).length = L := ⟨_, rfl⟩
                          have hL16 : L ≤ 16 := by
                            rw [← hL, List.length_map]
                            unfold upL
                            rw [List.length_map, List.length_append, HAL2.out, ← HNB.out]
                            omega
                          rw [hL] at e6
                          subst e6
                          have hrl := hlo.reads
                          have hwi := hlo.withinJ
                          have hbe6 : ∀ ad, A6 = some ad → wc.heap.size ≤ ad.block := by
                            intro ad e
                            subst e
                            exact (Own.lt hlo ad.block rfl).1
                          obtain ⟨vs, hv, hrw, hbe⟩ := HOWN.out.same hbx
                          have hGa7 := HGa.out.same hbx
                          have hGb7 := HGb.out.same hbx
                          have hOa7 := HOa.out.same hbx
                          have hbel7 := HBEL.out.trans (hbx.mono HBEL.out.size)
                          have hwc := HBEL.out.size
                          have HVL : Hid (vs.length = zs.length) := by unfold Hid; rw [hrw.1, List.length_map]
                          have hzb : zs.length ≤ 8 * 184041 + 429 * 429 + 429 := by
                            have h1 : kk * 184041 ≤ 8 * 184041 := Nat.mul_le_mul_right _ (by omega)
                            have h2 : ia * 429 ≤ 429 * 429 := Nat.mul_le_mul_right _ (by omega)
                            exact Nat.le_trans hzl (Nat.add_le_add (Nat.add_le_add h1 h2) (by omega))
                          have HGA7 := Lib.hid hGa7
                          have HGB7 := Lib.hid hGb7
                          have HOA7 := Lib.hid hOa7
                          have HBL7 := Lib.hid hbel7
                          clear hL hlo hGa7 hGb7 hOa7 hbel7
                          go_wp2_with (at_builtin; refine app1 el_rowsT rfl _ _ rfl rfl hv _ _ rfl rfl (by rw [HVL.out]; unfold maxLen; omega) (by rw [HVL.out]; omega) HBL7.out.size ?_; intro v7 w7 ho7 hb7 hg7 hat7; have hpush := bpush hrw hbe hrl (by unfold maxLen; omega) (fun ad e hq => by have h1 := hbe6 ad e; have h2 := hgc _ hq; omega) hwi (fun ad e => Nat.le_trans hwc (hbe6 ad e)) ho7 hg7 hat7)
                          have hlt7 : ∀ q, v7.ownBlock = some q → q < w7.heap.size := fun q e => (Own.lt ho7 q e).2
                          have hm7 : (zs.map (vn .i64) ++ [vn .i64 (upL a b)]) = (zs ++ [upL a b]).map (vn .i64) := by simp
                          rw [hm7] at hpush
                          have hGa8 := HGA7.out.kept1 hg7 hat7 hlt7
                          have hGb8 := HGB7.out.kept1 hg7 hat7 hlt7
                          have hOa8 := HOA7.out.kept hg7 (by rcases hat7 with h1 | h1; exact .inl h1; exact .inr (.inr h1)) n2p
                          have hbel8 := HBL7.out.trans hb7
                          clear hm7
                          go_roundw
                          case rel => exact ⟨ib + 1, zs ++ [upL a b], by omega, by go_num, hpush, hGa8, hOa8, hGb8, hbel8, HZ, by rw [List.length_append, List.length_singleton]; exact Nat.le_trans (Nat.add_le_add_right hzl 1) (Nat.le_of_eq (Nat.add_assoc _ _ _))⟩
                          case measure => simp [intOf] <;> omega
                · obtain rfl : m3 = ib := by omega
                  have HE : Hid (zs = xs ++ (Ta.take (ia + 1)).flatMap fun a => Tb.map (upL a)) := by
                    unfold Hid
                    rw [hzs.out, List.take_of_length_le (by rw [HM3.out]; exact Nat.le_refl _), HYA.out]
                  have hzl2 : zs.length ≤ kk * 184041 + (ia + 1) * 429 := by
                    rw [Nat.succ_mul ia 429]
                    exact Nat.le_trans hzl (Nat.le_trans (Nat.add_le_add_left hm3b _) (Nat.le_of_eq (Nat.add_assoc _ _ _)))
                  clear hOa hGb
                  go_wp2
                  go_roundw
                  case rel => exact ⟨ia + 1, zs, by omega, by go_num, hown, hGa, hbel, HE, hzl2⟩
                  case measure => simp [intOf] <;> omega
            · obtain rfl : m1 = ia := by omega
              have HE : Hid (ys = (List.range (kk + 1)).flatMap (treesK n)) := by
                unfold Hid
                rw [hys.out, List.take_of_length_le (by rw [HM1.out]; exact Nat.le_refl _), hxs.out, List.range_succ, List.flatMap_append]
                congr 1
                rw [← hK.out]
                simp
              have hyl2 : ys.length ≤ (kk + 1) * 184041 := by
                have : m1 * 429 ≤ 429 * 429 := Nat.mul_le_mul_right _ hm429
                omega
              clear hGa
              go_wp2
              go_roundw
              case rel => exact ⟨kk + 1, ys, by omega, by go_num, hown, hbel, HE, hyl2⟩
              case measure => simp [intOf] <;> omega
        · obtain rfl : kk = n + 1 := by have := HN.out; omega
          have hfull : xs = treesL N := by rw [hxs.out, HN.out, treesL_next n (by have := HN.out; omega)]
          obtain ⟨A5, c5, e5⟩ := hown.ownR.form
          rw [List.length_map] at e5
          obtain ⟨m5, hm5⟩ : ∃ m5, m5 = xs.length := ⟨_, rfl⟩
          rw [← hm5] at e5
          subst e5
          rw [hfull] at hown
          have HOWN := Lib.hid hown
          clear hfull hm5 hown
          go_wp2
          go_ret
          exact ⟨A5, m5, c5, rfl, HOWN.out, hbel⟩
end Go.Proofs.Ytglcljlafioleaa

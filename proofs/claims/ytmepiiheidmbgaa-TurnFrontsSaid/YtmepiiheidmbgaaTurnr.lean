import Derived.Test.YtmepiiheidmbgaaTurnu
import Derived.Test.YtmepiiheidmbgaaTurnf
import Derived.Test.YtmepiiheidmbgaaBytesEq
import Derived.Test.YtmepiiheidmbgaaQuiet
set_option linter.unusedVariables false
namespace Go.Proofs.Ytmepiiheidmbgaa
open Go.RowKit

theorem vn_one (K : IntKind) (l : List Nat) : ∀ u ∈ vn K l, u.oneCell' = true := by
  intro u hu; obtain ⟨b, _, rfl⟩ := List.mem_map.1 hu; rfl
set_option maxRecDepth 100000 in
set_option maxHeartbeats 1600000 in
theorem ref_Unfronts (A : Option Addr) (n c : Nat) (l : List Int) (out0 : List Nat) (w : World) (h : Reads w w.heap.size A n (vi .i64 l)) (hn : n ≤ 64) (hR : Hid (unR l = some out0)) :
    Calls Try.prog 30 #[.slice A n c] w (RetS w 5 (vn .u8 out0)) := by
  have H := Lib.hid h.int_len
  have HOK : Hid (∀ x ∈ l, okU x = true) := by
    have := hR.out
    unfold unR at this
    split at this
    · rename_i h1; exact List.all_eq_true.1 h1
    · cases this
  have HO : Hid (out0 = unM (l.map Int.toNat)) := by
    have := hR.out
    unfold unR at this
    split at this
    · injection this with this; exact this.symm
    · cases this
  go_enter Try.func30, Try.ntmps30
  go_wp2
  go_loopw [3, 10] (fun v i wr => ∃ (k : Nat) (out : List Nat), k ≤ n ∧ i = .int .i64 k ∧ Own wr w.heap.size 5 v (vn .u8 out) ∧ Below w.heap.size w wr ∧ Hid (out = unM ((l.take k).map Int.toNat) ∧ (∀ x ∈ out, x < 256)) ∧ out.length = k) (fun _ i _ => n - (intOf i).toNat)
  case atStart => exact ⟨0, [], by omega, rfl, Own.nil _ _ _, Below.refl _ _, by unfold Hid; simp [unM], rfl⟩
  case round =>
    obtain ⟨k, out, hk, rfl, hown, hbel, hst, hlen⟩ := hrel
    by_cases hlt : k < n
    · obtain ⟨ad, x0, rfl, hb, hx, hc0⟩ := h.int_at hlt
      obtain ⟨m, rfl, hm⟩ := okU_nat (HOK.out x0 (mem_at hx))
      have hc : wr.cell? (ad.add k) = some (.int .i64 (m : Int)) := (hbel.cell (by rw [block_of_add]; exact hb)).trans hc0
      obtain ⟨y, hy, hy2, hS, hF, hall⟩ := un_step hst.out.2 hm
      have HNX : Hid (out ++ [y] = unM ((l.take (k + 1)).map Int.toNat) ∧ (∀ x ∈ out ++ [y], x < 256)) := by
        refine ⟨?_, hall⟩
        rw [take_next hx, List.map_append, List.map_cons, List.map_nil, unM_snoc, ← hst.out.1, ← hS]; rfl
      have HAT : Hid (∀ x, x < 256 → (cntM out x = m ↔ x = y)) := fun x hx => cnt_at hst.out.2 hy hx
      have HALL : Hid (∀ x ∈ out, x < 256) := hst.out.2
      have hvl : Hid ((vn .u8 out).length = k) := by unfold Hid; rw [List.length_map]; exact hlen
      have HLEN := Lib.hid hlen
      clear hst hx hc0 hy hS hF hall hlen
      go_wp2
      go_loopw [3, 6] (fun v xv wi => ∃ x : Nat, x ≤ y ∧ xv = .int .i64 x ∧ Own wi w.heap.size 5 v (vn .u8 out) ∧ Below w.heap.size w wi) (fun _ xv _ => 256 - (intOf xv).toNat)
      case atStart => exact ⟨0, by omega, rfl, hown, hbel⟩
      case round =>
        clear hown hbel
        obtain ⟨x, hxy, rfl, hown, hbel⟩ := hrel
        have i1 : (x : Int) < 256 := by omega
        have i2 : (x : Int) % 256 = (x : Int) := by omega
        have hx256 : x < 256 := by omega
        obtain ⟨A1, c1, e1⟩ := hown.form
        rw [List.length_map, HLEN.out] at e1
        subst e1
        have hnew : Hid (vn .u8 out ++ [Value.int .u8 (x : Int)] = vn .u8 (out ++ [x])) := by unfold Hid vn; rw [List.map_append]; rfl
        have hoE : Own (wr.alloc (.cells #[] 5)) wr.heap.size 5 (.slice (some ⟨wr.heap.size, 0, none⟩) 0 0) [] := Own.built wr #[] 0 rfl (by unfold maxLen; omega) (Nat.le_refl _)
        have hrE : Reads (wr.alloc (.cells #[] 5)) wr.heap.size A1 k (vn .u8 out) := hown.reads.alloc (Nat.le_refl _) _
        have hbE : Below wr.heap.size wr (wr.alloc (.cells #[] 5)) := (Below.refl _ _).alloc (Nat.le_refl _) _
        have cf := fun (A' : Option Addr) (n' c' : Nat) (W : World) (hr : Reads W W.heap.size A' n' (vn .u8 (out ++ [x]))) (hn' : n' ≤ 100) => ref_Fronts A' n' c' (out ++ [x]) W hr hn' (fun z hz => by
          rcases List.mem_append.1 hz with h1 | h1
          · exact HALL.out z h1
          · rw [List.mem_singleton.1 h1]; exact hx256)
        obtain ⟨q, hq⟩ : ∃ q, cntM out x = q := ⟨_, rfl⟩
        have HQ : Hid (frL (out ++ [x]) = frL out ++ [q]) := by unfold Hid; rw [frL_snoc, hq]
        have hFL : Hid ((frL out).length = k) := by unfold Hid; rw [frL_len, HLEN.out]
        have HQA : Hid (q = m ↔ x = y) := by have := HAT.out x hx256; rw [hq] at this; exact this
        clear hq
        by_cases hxe : x = y
        · have hqm : (q : Int) = (m : Int) := by have := HQA.out.2 hxe; omega
          have HXE := Lib.hid hxe
          have hbq : ((q : Int) == (m : Int)) = true := by simp; omega
          clear hxe
          obtain rfl : q = m := by omega
          clear hqm hbq
          go_wp2_with (first
            | (at_builtin; refine appN el_u8T rfl _ _ rfl rfl hoE rfl hrE (vn_one _ _) (by simp; unfold maxLen; omega) (by simp; omega) hbE.size ?_; clear hoE; intro v3 w3 ho3 hb3 _ _; rw [List.nil_append] at ho3; have hb13 := hbE.trans hb3; have hsz3 := hb13.size)
            | (at_builtin; refine app1 el_u8T rfl _ _ rfl rfl ho3 _ _ rfl rfl (by rw [hvl.out]; unfold maxLen; omega) (by rw [hvl.out]; omega) hsz3 ?_; clear ho3; intro v4 w4 ho4 hb4 _ _; rw [hnew.out] at ho4; obtain ⟨A4, c4, e4⟩ := ho4.form; rw [List.length_map, List.length_append, HLEN.out] at e4; subst e4; have cf := cf A4 _ c4 w4 ho4.reads (by simp; omega); have hb14 := hb13.trans hb4)
            | (go_at_call 33; refine cf.mono ?_; clear cf; rintro e w5 ⟨A5, n5, c5, rfl, ho5, hb5⟩; have hb15 := hb14.trans (hb5.mono hb14.size); have hn5 : n5 = k + 1 := (by have := ho5.len; rw [List.length_map, frL_len, List.length_append, HLEN.out] at this; simpa using this.symm); subst hn5; rw [HQ.out] at ho5; obtain ⟨ad5, hA5, _⟩ := ho5.reads.cells (by omega); subst hA5; have hc5 : w5.cell? (ad5.add k) = some (.int .i64 (q : Int)) := ho5.cell (by unfold vn; rw [List.map_append, List.getElem?_append_right (by rw [List.length_map, hFL.out]; omega), List.length_map, hFL.out, Nat.sub_self]; rfl); have hown5 := hown.below hb15 (Nat.le_refl _); have hbel5 := hbel.trans (hb15.mono hbel.size); have i5 : (k : Int) + 1 - 1 = (k : Int) := (by omega))
            | (at_builtin; refine app1 el_u8T rfl _ _ rfl rfl hown5 _ _ rfl rfl (by rw [hvl.out]; unfold maxLen; omega) (by rw [hvl.out]; omega) hbel5.size ?_; intro v7 w7 ho7 hb7 hg7 hat7))
          rw [hnew.out, HXE.out] at ho7
          go_roundw
          case rel => exact ⟨k + 1, out ++ [y], by omega, by go_num, ho7, hbel5.trans hb7, HNX, by simp [HLEN.out]⟩
          case measure => simp [intOf]; omega
        · have hqm : ¬ (q : Int) = (m : Int) := by have : ¬ q = m := fun e => hxe (HQA.out.1 e); omega
          have hbq : ((q : Int) == (m : Int)) = false := by simp; omega
          go_wp2_with (first
            | (at_builtin; refine appN el_u8T rfl _ _ rfl rfl hoE rfl hrE (vn_one _ _) (by simp; unfold maxLen; omega) (by simp; omega) hbE.size ?_; clear hoE; intro v3 w3 ho3 hb3 _ _; rw [List.nil_append] at ho3; have hb13 := hbE.trans hb3; have hsz3 := hb13.size)
            | (at_builtin; refine app1 el_u8T rfl _ _ rfl rfl ho3 _ _ rfl rfl (by rw [hvl.out]; unfold maxLen; omega) (by rw [hvl.out]; omega) hsz3 ?_; clear ho3; intro v4 w4 ho4 hb4 _ _; rw [hnew.out] at ho4; obtain ⟨A4, c4, e4⟩ := ho4.form; rw [List.length_map, List.length_append, HLEN.out] at e4; subst e4; have cf := cf A4 _ c4 w4 ho4.reads (by simp; omega); have hb14 := hb13.trans hb4)
            | (go_at_call 33; refine cf.mono ?_; clear cf; rintro e w5 ⟨A5, n5, c5, rfl, ho5, hb5⟩; have hb15 := hb14.trans (hb5.mono hb14.size); have hn5 : n5 = k + 1 := (by have := ho5.len; rw [List.length_map, frL_len, List.length_append, HLEN.out] at this; simpa using this.symm); subst hn5; rw [HQ.out] at ho5; obtain ⟨ad5, hA5, _⟩ := ho5.reads.cells (by omega); subst hA5; have hc5 : w5.cell? (ad5.add k) = some (.int .i64 (q : Int)) := ho5.cell (by unfold vn; rw [List.map_append, List.getElem?_append_right (by rw [List.length_map, hFL.out]; omega), List.length_map, hFL.out, Nat.sub_self]; rfl); have hown5 := hown.below hb15 (Nat.le_refl _); have hbel5 := hbel.trans (hb15.mono hbel.size); have i5 : (k : Int) + 1 - 1 = (k : Int) := (by omega)))
          go_roundw
          case rel => exact ⟨x + 1, by omega, by go_num, hown5, hbel5⟩
          case measure => simp [intOf]; omega
    · obtain rfl : k = n := by omega
      have ht := List.take_of_length_le (Nat.le_of_eq H.out)
      have HE : Hid (out = out0) := by
        have h1 := hst.out.1
        rw [ht] at h1
        unfold Hid; rw [h1, HO.out]
      obtain ⟨A2, c2, e⟩ := hown.form
      rw [List.length_map, hlen] at e
      subst e
      clear ht hst
      rw [HE.out] at hown
      go_wp2
      go_ret
      exact ⟨A2, k, c2, rfl, hown, hbel⟩
set_option maxHeartbeats 800000 in
theorem TurnUnfronts_walk (A : Option Addr) (n c : Nat) (l : List Int) (w : World) (h : Reads w w.heap.size A n (vi .i64 l)) (_ : ∀ z ∈ l, (Lit.int .i64 z).wf = true) (hm : n * 8 ≤ reachBytes) :
    Calls Try.prog 8 #[.slice A n c] w (LawTrue w) := by
  have hm2 : n ≤ 1000000000000000 := by unfold reachBytes at hm; omega
  clear hm
  have H := Lib.hid h.int_len
  by_cases hn : 64 < n
  · have c1 := turn_Unfront_big A n c w hn
    go_enter Try.func8, Try.ntmps8
    go_wp2_with (go_at_call 29; refine c1.mono ?_; clear c1; rintro e w1 ⟨rfl, rfl⟩)
    go_loop [5, 18] (fun z i => ∃ k : Nat, k ≤ n ∧ i = .int .i64 k ∧ z = .int .i64 1) (fun _ i => n - (intOf i).toNat)
    case atStart => exact ⟨0, by omega, rfl, rfl⟩
    case round =>
      obtain ⟨k, hk, rfl, rfl⟩ := hrel
      by_cases hlt : k < n
      · obtain ⟨ad, x, rfl, hb, hx, hc⟩ := h.int_at hlt
        clear hx
        go_wp2
        go_round
        case rel => exact ⟨k + 1, by omega, by go_num, rfl⟩
        case measure => simp [intOf]; omega
      · obtain rfl : k = n := by omega
        go_wp2
        go_ret
        exact .same _
  · obtain ⟨R, hR⟩ : ∃ R, unR l = R := ⟨_, rfl⟩
    have c1 := turn_Unfront A n c l R w h (by omega) hR
    cases R with
    | none =>
      have HBAD : Hid (l.all okU = false) := by
        unfold Hid
        unfold unR at hR
        split at hR
        · cases hR
        · rename_i h1; simpa using h1
      clear hR
      go_enter Try.func8, Try.ntmps8
      go_wp2_with (go_at_call 29; refine c1.mono ?_; clear c1; rintro e w1 ⟨hb1, rfl⟩)
      go_loop [5, 18] (fun z i => ∃ (k : Nat) (e : Int), k ≤ n ∧ i = .int .i64 k ∧ z = .int .i64 e ∧ Hid (e = if (l.take k).all okU then 0 else 4)) (fun _ i => n - (intOf i).toNat)
      case atStart => exact ⟨0, 0, by omega, rfl, rfl, by unfold Hid; simp⟩
      case round =>
        obtain ⟨k, e, hk, rfl, rfl, he⟩ := hrel
        by_cases hlt : k < n
        · obtain ⟨ad, x, rfl, hb, hx, hc0⟩ := h.int_at hlt
          have hc : w1.cell? (ad.add k) = some (.int .i64 x) := (hb1.cell (by rw [block_of_add]; exact hb)).trans hc0
          have HN : Hid ((l.take (k + 1)).all okU = ((l.take k).all okU && okU x)) := by unfold Hid; rw [take_next hx, List.all_append]; simp
          have he2 := he.out
          clear hx hc0 he
          cases hq : (l.take k).all okU with
          | true =>
            rw [hq, if_pos rfl] at he2
            have hqo := HN.out
            rw [hq, Bool.true_and] at hqo
            cases hok : okU x with
            | true =>
              have HE : Hid ((0 : Int) = if (l.take (k + 1)).all okU then 0 else 4) := by unfold Hid; rw [hqo, hok]; rfl
              have hx1 : 0 ≤ x ∧ x ≤ 255 := by unfold okU at hok; simpa using hok
              obtain ⟨i1, i2⟩ := hx1
              have j1 : ¬ x < 0 := by omega
              have j2 : ¬ 255 < x := by omega
              clear hq hqo hok
              subst he2
              go_wp2
              go_round
              case rel => exact ⟨k + 1, 0, by omega, by go_num, rfl, HE⟩
              case measure => simp [intOf]; omega
            | false =>
              have HE : Hid ((4 : Int) = if (l.take (k + 1)).all okU then 0 else 4) := by unfold Hid; rw [hqo, hok]; rfl
              have hor : x < 0 ∨ 255 < x := by unfold okU at hok; simp at hok; omega
              clear hq hqo hok
              subst he2
              by_cases hx0 : x < 0
              · go_wp2
                go_round
                case rel => exact ⟨k + 1, 4, by omega, by go_num, rfl, HE⟩
                case measure => simp [intOf]; omega
              · have hx1 : 255 < x := by omega
                go_wp2
                go_round
                case rel => exact ⟨k + 1, 4, by omega, by go_num, rfl, HE⟩
                case measure => simp [intOf]; omega
          | false =>
            rw [hq] at he2
            have hqo := HN.out
            rw [hq, Bool.false_and] at hqo
            have HE : Hid ((4 : Int) = if (l.take (k + 1)).all okU then 0 else 4) := by unfold Hid; rw [hqo]; rfl
            have he3 : e = 4 := by simpa using he2
            clear hq hqo he2
            subst he3
            go_wp2
            go_round
            case rel => exact ⟨k + 1, 4, by omega, by go_num, rfl, HE⟩
            case measure => simp [intOf]; omega
        · obtain rfl : k = n := by omega
          have he2 := he.out
          rw [List.take_of_length_le (Nat.le_of_eq H.out), HBAD.out] at he2
          have he3 : e = 4 := by simpa using he2
          clear he he2
          subst he3
          go_wp2
          go_ret
          exact ⟨rfl, hb1⟩
    | some out0 =>
      have HOK : Hid (∀ x ∈ l, okU x = true) := by
        unfold Hid
        unfold unR at hR
        split at hR
        · rename_i h1; exact List.all_eq_true.1 h1
        · cases hR
      have c2 := fun (w1 : World) (hb : Below w.heap.size w w1) => ref_Unfronts A n c l out0 w1 ((h.below hb).more hb.size) (by omega) hR
      have hol : out0.length = n := by
        have := hR
        unfold unR at this
        split at this
        · injection this with this; rw [← this, unM_len, List.length_map, H.out]
        · cases this
      have HOL := Lib.hid hol
      have c3 := fun (A1 A2 : Option Addr) (n1 n2 k1 k2 : Nat) (w2 : World) (g1 : Reads w2 w2.heap.size A1 n1 (vn .u8 out0)) (g2 : Reads w2 w2.heap.size A2 n2 (vn .u8 out0)) => ref_Bytes A1 A2 n1 n2 k1 k2 out0 out0 true w2 g1 g2 (by have := g1.nat_len; have := HOL.out; unfold maxLen; omega) (by simp [Hid])
      clear hR hol
      go_enter Try.func8, Try.ntmps8
      go_wp2_with (go_at_call 29; refine c1.mono ?_; clear c1; rintro e w1 ⟨hb1, A1, n1, k1, rfl, ho1⟩)
      have c2 := c2 w1 hb1
      go_loop [5, 18] (fun z i => ∃ k : Nat, k ≤ n ∧ i = .int .i64 k ∧ z = .int .i64 0) (fun _ i => n - (intOf i).toNat)
      case atStart => exact ⟨0, by omega, rfl, rfl⟩
      case round =>
        obtain ⟨k, hk, rfl, rfl⟩ := hrel
        by_cases hlt : k < n
        · obtain ⟨ad, x, rfl, hb, hx, hc0⟩ := h.int_at hlt
          have hc : w1.cell? (ad.add k) = some (.int .i64 x) := (hb1.cell (by rw [block_of_add]; exact hb)).trans hc0
          have hok := HOK.out x (mem_at hx)
          have hx1 : 0 ≤ x ∧ x ≤ 255 := by unfold okU at hok; simpa using hok
          obtain ⟨i1, i2⟩ := hx1
          have j1 : ¬ x < 0 := by omega
          have j2 : ¬ 255 < x := by omega
          clear hx hc0 hok
          go_wp2
          go_round
          case rel => exact ⟨k + 1, by omega, by go_num, rfl⟩
          case measure => simp [intOf]; omega
        · obtain rfl : k = n := by omega
          go_wp2_with (first
            | (go_at_call 30; refine c2.mono ?_; clear c2; rintro e w2 ⟨A2, n2, k2, rfl, ho2, hb2⟩; have c3 := c3 A1 A2 n1 n2 k1 k2 w2 ((ho1.below hb2 (Nat.le_refl _)).reads) ho2.reads)
            | (go_at_call 28; refine c3.mono ?_; rintro e w3 ⟨rfl, m, rfl⟩))
          go_ret
          exact ⟨rfl, below_drewN (hb1.trans (hb2.mono hb1.size)) _⟩
end Go.Proofs.Ytmepiiheidmbgaa

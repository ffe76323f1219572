/-
  quipuref.Unique: are there no two texts alike.
-/
import Derived.Test.YtpbffbhebdcpbaaUnk
import Derived.Test.YtpbffbhebdcpbaaBools
import Derived.Deep.LoopGhost
set_option linter.unusedVariables false
namespace Go.Proofs.Ytpbffbhebdcpbaa
open Go.RowKit

theorem reads_fromU {w : World} {B n k c : Nat} {ad : Addr} {l : List Bool} (h : Reads w B (some ad) n (vb l)) (hn : 0 < n) (hk : k ≤ n) (hc : n ≤ c) : Reads w B (if c = k then some ad else some (ad.add k)) (n - k) (vb (l.drop k)) := by
  have hl := h.bool_len
  by_cases e : c = k
  · obtain rfl : k = n := by omega
    rw [if_pos e, Nat.sub_self, List.drop_of_length_le (by omega)]
    exact ⟨rfl, fun h0 => absurd h0 (by omega)⟩
  · rw [if_neg e]
    obtain ⟨ad', e1, hb, hcs⟩ := h.cells hn
    injection e1 with e1; subst e1
    refine ⟨by simp; omega, fun _ => ⟨_, rfl, by rw [block_of_add]; exact hb, fun j u hu => ?_⟩⟩
    rw [add_of_add]
    refine hcs _ _ ?_
    rw [List.getElem?_map, List.getElem?_drop] at hu
    rw [List.getElem?_map]; exact hu
theorem el_rowsU : Elem Try.prog 30 22 (.slice none 0 0) 24 := Elem.mk' Try.underlying30 (by kernel_rfl) rfl
/-- a list of lists: its row is the call's own, the lists lie below base -/
def RR (E : TypeId) (w : World) (base : Nat) (v : Value) (L : List (List Bool)) : Prop :=
  ∃ vs, Own w base E v vs ∧ vs.length = L.length ∧ ∀ (i : Nat) (l : List Bool), L[i]? = some l → ∃ A n c, vs[i]? = some (.slice A n c) ∧ Reads w base A n (vb l) ∧ n ≤ c ∧ n ≤ 8
section
variable {E : TypeId} {w w' : World} {base : Nat} {v v' : Value} {L : List (List Bool)}
theorem RR.nil (E : TypeId) (w : World) (base : Nat) : RR E w base (.slice none 0 0) [] := ⟨[], Own.nil _ _ _, rfl, fun i l h => by simp at h⟩
theorem RR.drewN (h : RR E w base v L) (m : Nat) : RR E (w.drewN m) base v L := by
  obtain ⟨vs, h1, h2, h3⟩ := h
  exact ⟨vs, h1.drewN m, h2, fun i l hl => by obtain ⟨A, n, c, e, h4, h5⟩ := h3 i l hl; exact ⟨A, n, c, e, h4.drewN m, h5⟩⟩
theorem RR.push {vs : List Value} {s : List Bool} {A : Option Addr} {n c : Nat} (h2 : vs.length = L.length) (h3 : ∀ (i : Nat) (l : List Bool), L[i]? = some l → ∃ A n c, vs[i]? = some (.slice A n c) ∧ Reads w base A n (vb l) ∧ n ≤ c ∧ n ≤ 8)
    (hb : Below base w w') (ho : Own w' base E v' (vs ++ [.slice A n c])) (hs : Reads w base A n (vb s)) (hc : n ≤ c) (h8 : n ≤ 8) : RR E w' base v' (L ++ [s]) := by
  refine ⟨vs ++ [.slice A n c], ho, by simp [h2], fun i l hl => ?_⟩
  rcases Nat.lt_or_ge i L.length with hi | hi
  · rw [List.getElem?_append_left hi] at hl
    obtain ⟨A', n', c', e, h4, h5⟩ := h3 i l hl
    exact ⟨A', n', c', by rw [List.getElem?_append_left (by omega)]; exact e, h4.below hb, h5⟩
  · rw [List.getElem?_append_right hi] at hl
    have hi0 : i - L.length = 0 := by
      have := (List.getElem?_eq_some_iff.1 hl).1
      simp only [List.length_cons, List.length_nil] at this; omega
    rw [hi0] at hl
    injection hl with hl
    subst hl
    exact ⟨A, n, c, by rw [List.getElem?_append_right (by omega), show i - vs.length = 0 by omega]; rfl, hs.below hb, hc, h8⟩
theorem RR.form (h : RR E w base v L) : ∃ A c, v = .slice A L.length c := by
  obtain ⟨vs, h1, h2, _⟩ := h
  obtain ⟨A, c, e⟩ := h1.form
  exact ⟨A, c, by rw [e, h2]⟩
theorem RR.row {A : Option Addr} {n c k : Nat} {l : List Bool} (h : RR E w base (.slice A n c) L) (hl : L[k]? = some l) : ∃ ad A' n' c', A = some ad ∧ w.cell? (ad.add k) = some (.slice A' n' c') ∧ Reads w base A' n' (vb l) ∧ n' ≤ c' ∧ n' ≤ 8 := by
  obtain ⟨vs, h1, h2, h3⟩ := h
  obtain ⟨A', n', c', e, h4, h5, h6⟩ := h3 k l hl
  have hn := h1.len
  have hk := (List.getElem?_eq_some_iff.1 hl).1
  obtain ⟨ad, u, rfl, _, hx, hc⟩ := h1.reads.at_ (k := k) (by omega)
  rw [e] at hx
  injection hx with hx
  subst hx
  exact ⟨ad, A', n', c', rfl, hc, h4, h5, h6⟩
end
theorem refJ_hit {C : List (List Bool)} {i j : Nat} {a b : List Bool} (hi : C[i]? = some a) (hj : C[j]? = some b) (hne : i ≠ j) (hb : begB a b = true) : refJ C i (j + 1) = refJ C i j ++ [b.drop a.length] := by
  rw [refJ]
  congr 1
  unfold refF
  rw [getD_at hi, getD_at hj, hb]
  have : (i != j) = true := by simpa using hne
  rw [this]; rfl
theorem refJ_no {C : List (List Bool)} {i j : Nat} {a b : List Bool} (hi : C[i]? = some a) (hj : C[j]? = some b) (h : i = j ∨ begB a b = false) : refJ C i (j + 1) = refJ C i j := by
  rw [refJ]
  unfold refF
  rw [getD_at hi, getD_at hj]
  rcases h with h | h
  · subst h; simp
  · rw [h]; simp
theorem any_take {L : List (List Bool)} {s y : List Bool} {t : Nat} (h : L[t]? = some y) : (L.take (t + 1)).any (fun y => decide (y = s)) = ((L.take t).any (fun y => decide (y = s)) || decide (y = s)) := by
  rw [take_next h, List.any_append]; simp
theorem any_mem {L : List (List Bool)} {s : List Bool} {n : Nat} (hn : L.length = n) {b : Bool} (h : (L.take n).any (fun y => decide (y = s)) = b) : b = decide (s ∈ L) := by
  rw [List.take_of_length_le (by omega)] at h
  rw [← h]
  apply Bool.eq_iff_iff.2
  simp
set_option maxHeartbeats 4000000 in
set_option maxRecDepth 100000 in
theorem ref_Unique (A : Option Addr) (n c : Nat) (C : List (List Bool)) (w : World) (h : Reads2c w w.heap.size A n C) (hn : n ≤ 8) (h8 : ∀ l ∈ C, l.length ≤ 8) :
    Calls Try.prog 12 #[.slice A n c] w (RetB w (.bool (uniB C))) := by
  have HLEN := Lib.hid h.plain.length
  have H8 := Lib.hid h8
  clear h8
  go_enter Try.func12, Try.ntmps12
  go_wp2
  go_loopw [19, 4] (fun iv _ wr => ∃ i : Nat, i ≤ n ∧ iv = .int .i64 i ∧ wr = w ∧ Hid (∀ j, j < i → C[j]? ≠ some [])) (fun iv _ _ => n - (intOf iv).toNat)
  case atStart => exact ⟨0, by omega, rfl, rfl, fun j hj => by omega⟩
  case round =>
    obtain ⟨i, hi, rfl, hwr, hne⟩ := hrel
    obtain rfl : w = wr := hwr.symm
    by_cases hlt : i < n
    · obtain ⟨ad, a, A1, n1, c1, e, hx, hc1, hr1, hm1, hl1, hk1⟩ := h.row hlt
      subst e
      have i0 : (0 : Int) ≤ (i : Int) := by omega
      have i1 : (i : Int) < (n : Int) := by omega
      by_cases hn0 : n1 = 0
      · have HU : Hid (uniB C = false) := uniB_false fun hu => hu.1 (by rw [← List.eq_nil_of_length_eq_zero (hl1.trans hn0)]; exact mem_at hx)
        subst hn0
        clear hx hl1
        go_wp2
        go_ret
        exact ⟨ret_b HU.out.symm, Below.refl _ _⟩
      · have b0 : ((n1 : Int) == 0) = false := by simp; omega
        have HN : Hid (∀ j, j < i + 1 → C[j]? ≠ some []) := fun j hj => by
          rcases Nat.lt_or_ge j i with h1 | h1
          · exact hne.out j h1
          · obtain rfl : j = i := by omega
            rw [hx]; intro e; injection e with e; rw [e] at hl1; exact hn0 hl1.symm
        clear hx hl1
        go_wp2
        go_roundw
        case rel => exact ⟨i + 1, by omega, by go_num, by trivial, HN⟩
        case measure => simp [intOf] <;> omega
    · obtain rfl : n = i := by omega
      have i1 : ¬ (n : Int) < (n : Int) := by omega
      have HC : Hid ([] ∉ C) := fun h0 => by
        obtain ⟨j, hj, e⟩ := List.mem_iff_getElem.1 h0
        exact hne.out j (by rw [← HLEN.out]; exact hj) (by rw [List.getElem?_eq_getElem hj, e])
      clear hne
      go_wp2
      go_loopw [29, 5, 6, 7, 8, 9] (fun iv qv _ _ _ _ wr => ∃ i : Nat, i ≤ n ∧ iv = .int .i64 i ∧ RR 22 wr w.heap.size qv (refI C n i) ∧ Below w.heap.size w wr) (fun iv _ _ _ _ _ _ => n - (intOf iv).toNat)
      case atStart => exact ⟨0, by omega, rfl, RR.nil _ _ _, Below.refl _ _⟩
      case round =>
        obtain ⟨i, hi2, rfl, hq, hb⟩ := hrel
        by_cases hlt : i < n
        · obtain ⟨ad, a, A1, n1, c1, e, hx, hc1, hr1, hm1, hl1, hk1⟩ := (h.below hb).row hlt
          subst e
          have HX := Lib.hid hx
          have HR1 := Lib.hid hr1
          have hn18 : n1 ≤ 8 := by rw [← hl1]; exact H8.out _ (mem_at hx)
          have HL1 := Lib.hid hl1
          clear hx hl1 hm1 hr1
          have i0 : (0 : Int) ≤ (i : Int) := by omega
          have i1 : (i : Int) < (n : Int) := by omega
          have hwb := hb.size
          go_wp2
          obtain ⟨wo, rfl⟩ : ∃ x, x = wr := ⟨_, rfl⟩
          have HB := Lib.hid hb
          clear hb
          go_loopw [36, 5, 8, 9] (fun jv qv _ _ wi => ∃ j : Nat, j ≤ n ∧ jv = .int .i64 j ∧ RR 22 wi w.heap.size qv (refI C n i ++ refJ C i j) ∧ Below w.heap.size wo wi) (fun jv _ _ _ _ => n - (intOf jv).toNat)
          case atStart => exact ⟨0, by omega, rfl, by simpa [refJ] using hq, Below.refl _ _⟩
          case round =>
            obtain ⟨j, hj, rfl, hqi, hbi⟩ := hrel
            by_cases hltj : j < n
            · obtain ⟨ad2, b, A2, n2, c2, e, hy, hc2, hr2, hm2, hl2, hk2⟩ := (h.below (HB.out.trans hbi)).row hltj
              injection e with e
              subst e
              have hr1' := HR1.out.below hbi
              have cb := ref_Begins A1 A2 n1 n2 c1 c2 a b wr hr1' hr2 (by unfold maxLen; omega) hm2 hk2
              have HY := Lib.hid hy
              have hn28 : n2 ≤ 8 := by rw [← hl2]; exact H8.out _ (mem_at hy)
              have hn20 : 0 < n2 := by
                rcases Nat.eq_zero_or_pos n2 with h0 | h0
                · exact absurd (mem_at hy) (by rw [List.eq_nil_of_length_eq_zero (hl2.trans h0)]; exact HC.out)
                · exact h0
              obtain ⟨ad2, rfl⟩ := hr2.addr hn20
              have HBL : Hid (begB a b = true → n1 ≤ n2) := fun hbg => by
                have := congrArg List.length (begB_true hbg)
                rw [List.length_append, HL1.out] at this
                omega
              have j0 : (0 : Int) ≤ (j : Int) := by omega
              have j1 : (j : Int) < (n : Int) := by omega
              have hswi := hbi.size
              clear hy hm2 hl2
              by_cases hij : i = j
              · have hne : ((i : Int) != (j : Int)) = false := by simp; omega
                have HN := Lib.hid (refJ_no HX.out HY.out (.inl hij))
                clear hij
                go_wp2
                go_roundw
                case rel => exact ⟨j + 1, by omega, by go_num, by rw [HN.out]; exact hqi, hbi⟩
                case measure => simp only [intOf]; omega
              · have hne : ((i : Int) != (j : Int)) = true := by simp; omega
                cases hbg : begB a b
                · rw [hbg] at cb
                  have HN := Lib.hid (refJ_no HX.out HY.out (.inr hbg))
                  clear hbg hij
                  go_wp2_with (go_at_call 28; refine cb.mono ?_; rintro e w' ⟨rfl, m2, rfl⟩)
                  go_roundw
                  case rel => exact ⟨j + 1, by omega, by go_num, by rw [HN.out]; exact hqi.drewN m2, below_drewN hbi m2⟩
                  case measure => simp only [intOf]; omega
                · rw [hbg] at cb
                  have HN := Lib.hid (refJ_hit HX.out HY.out hij hbg)
                  have hle := HBL.out hbg
                  have l0 : (0 : Int) ≤ (n1 : Int) := by omega
                  have l1 : (n1 : Int) ≤ (n2 : Int) := by omega
                  have HRD := Lib.hid (reads_fromU hr2 hn20 hle hk2)
                  have hql : (refI C n i ++ refJ C i j).length ≤ 72 := by
                    have h1 := refI_len C n i
                    have h2 := refJ_len C i j
                    have h3 : i * n ≤ 8 * 8 := Nat.mul_le_mul (by omega) hn
                    rw [List.length_append]; omega
                  obtain ⟨xss, ho, hxl, hxs⟩ := hqi
                  have hxl8 : xss.length ≤ 72 := by omega
                  have HO := Lib.hid ho
                  have HXL := Lib.hid hxl
                  have HXS := Lib.hid hxs
                  clear hbg hij ho hxl hxs hql
                  go_wp2_with (first
                    | (go_at_call 28; refine cb.mono ?_; clear cb; rintro e w' ⟨rfl, m2, rfl⟩)
                    | (at_builtin; refine app1 el_rowsU rfl _ _ rfl rfl (HO.out.drewN m2) _ _ rfl rfl (by unfold maxLen; omega) (by omega) (by show w.heap.size ≤ wr.heap.size; omega) ?_; intro v6 w6 ho6 hb6 hg6 hat6))
                  have hbW : Below w.heap.size wr w6 := (below_drewN (Below.refl _ wr) m2).trans hb6
                  have hQ6 := RR.push HXL.out HXS.out hbW ho6 HRD.out (by omega) (by omega)
                  rw [List.append_assoc, ← HL1.out, ← HN.out] at hQ6
                  clear hg6 hat6 ho6 hb6
                  go_roundw
                  case rel => exact ⟨j + 1, by omega, by go_num, hQ6, hbi.trans hbW⟩
                  case measure => simp only [intOf]; omega
            · obtain rfl : j = n := by omega
              go_wp2
              go_roundw
              case rel => exact ⟨i + 1, by omega, by go_num, by rw [refI]; exact hqi, HB.out.trans hbi⟩
              case measure => simp only [intOf]; omega
        · obtain rfl : n = i := by omega
          have HR0 : Hid (RInv C (refI C n n) 0 0) := by
            have := RInv.start C (by rw [HLEN.out]; exact hn)
            rw [HLEN.out] at this
            exact this
          have HM0 : Hid ((refI C n n).length + unseen C (fun r => decide (r ∈ refI C n n)) ≤ 136) := by
            have := HR0.out.room
            rw [HLEN.out] at this
            unfold Hid; omega
          go_wp2
          go_loopg [10, 5, 12, 13, 14, 16] 136 (fun gk kv qv _ _ _ _ wr' => ∃ (k : Nat) (L : List (List Bool)), kv = .int .i64 k ∧ RR 22 wr' w.heap.size qv L ∧ Below w.heap.size w wr' ∧ Hid (RInv C L k 0) ∧ Hid (L.length + unseen C (fun r => decide (r ∈ L)) ≤ gk + k) ∧ k ≤ L.length)
          case atStart => exact ⟨0, _, rfl, hq, hb, HR0.out, HM0.out, Nat.zero_le _⟩
          case round =>
            obtain ⟨k, L, rfl, hq, hb, hinv, hmeas, hkL⟩ := hrel
            have hroom := hinv.out.room
            rw [HLEN.out] at hroom
            obtain ⟨wo, rfl⟩ : ∃ x, x = wr := ⟨_, rfl⟩
            obtain ⟨qv0, rfl⟩ : ∃ x, x = u5 := ⟨_, rfl⟩
            obtain ⟨Aq, cq, rfl⟩ := hq.form
            have hN136 : L.length ≤ 136 := by omega
            by_cases hk : k < L.length
            · have hr : L[k]? = some L[k] := List.getElem?_eq_getElem hk
              generalize L[k] = r at hr
              obtain ⟨adq, Ar, nr, cr, e, hcr, hrr, hrc, hr8⟩ := hq.row hr
              subst e
              have hrl := hrr.bool_len
              have HR := Lib.hid hr
              obtain ⟨N, hN⟩ : ∃ N, L.length = N := ⟨_, rfl⟩
              have HNL := Lib.hid hN
              have HINV := Lib.hid hinv.out
              rw [hN] at hk hkL hN136 hq ⊢
              have i0 : (0 : Int) ≤ (k : Int) := by omega
              have i1 : (k : Int) < (N : Int) := by omega
              have HRR := Lib.hid hrr
              by_cases hr0 : nr = 0
              · have HU : Hid (uniB C = false) := by
                  have : r = [] := List.eq_nil_of_length_eq_zero (hrl.trans hr0)
                  exact RInv.hit hinv.out (by rw [hr, this])
                subst hr0
                clear hr hrr hrl hinv hN
                go_wp2
                go_ret
                exact ⟨ret_b HU.out.symm, hb⟩
              · have b0 : ((nr : Int) == 0) = false := by simp; omega
                have HNE : Hid (r ≠ []) := fun e => by rw [e] at hrl; exact hr0 hrl.symm
                have hGK : 1 ≤ gk := by have := hmeas.out; rw [hN] at this; omega
                have HQ := Lib.hid hq
                have HB := Lib.hid hb
                have HME := Lib.hid hmeas.out
                have HRL : Hid (r.length = nr) := hrl
                clear hr hrr hrl hinv hN hq hb hmeas hroom
                go_wp2
                clear hcr
                go_loopw [72, 5, 12, 13, 14, 16] (fun mv qv _ _ _ _ wi => ∃ (m : Nat) (L' : List (List Bool)), m ≤ n ∧ mv = .int .i64 m ∧ RR 22 wi w.heap.size qv L' ∧ Below w.heap.size w wi ∧ Hid (RInv C L' k m) ∧ Hid (L'.length + unseen C (fun r => decide (r ∈ L')) ≤ gk + k) ∧ Hid (L'[k]? = some r)) (fun mv _ _ _ _ _ _ => n - (intOf mv).toNat)
                case atStart => exact ⟨0, L, by omega, rfl, HQ.out, HB.out, HINV.out, HME.out, HR.out⟩
                case round =>
                  obtain ⟨m, L', hm, rfl, hq, hb, hinv, hmeas, hr⟩ := hrel
                  clear HQ HB HINV HME HNL
                  obtain ⟨qv1, rfl⟩ : ∃ x, x = u5 := ⟨_, rfl⟩
                  obtain ⟨wi, rfl⟩ : ∃ x, x = wr := ⟨_, rfl⟩
                  obtain ⟨Aq1, cq1, rfl⟩ := hq.form
                  have hroom := hinv.out.room
                  rw [HLEN.out] at hroom
                  obtain ⟨N1, hN1⟩ : ∃ N, L'.length = N := ⟨_, rfl⟩
                  have HNL := Lib.hid hN1
                  rw [hN1] at hq hroom ⊢
                  by_cases hltm : m < n
                  · obtain ⟨adq1, Ar1, nr1, cr1, e, hcr, hrr, hrc1, hr81⟩ := hq.row hr.out
                    subst e
                    obtain rfl : nr = nr1 := by have := hrr.bool_len; rw [HRL.out] at this; exact this
                    obtain ⟨adr, rfl⟩ := hrr.addr (by omega)
                    obtain ⟨ad, x, A1, n1, c1, e, hx, hc1, hr1, hm1, hl1, hk1⟩ := (h.below hb).row hltm
                    subst e
                    have hn18 : n1 ≤ 8 := by rw [← hl1]; exact H8.out _ (mem_at hx)
                    have hn10 : 0 < n1 := by
                      rcases Nat.eq_zero_or_pos n1 with h0 | h0
                      · exact absurd (mem_at hx) (by rw [List.eq_nil_of_length_eq_zero (hl1.trans h0)]; exact HC.out)
                      · exact h0
                    obtain ⟨ad1, rfl⟩ := hr1.addr hn10
                    have hnr0 : 0 < nr := by omega
                    have hkN : k < N1 := by rw [← hN1]; exact (List.getElem?_eq_some_iff.1 hr.out).1
                    have hN1136 : N1 ≤ 136 := by omega
                    have k0 : (0 : Int) ≤ (k : Int) := by omega
                    have k1 : (k : Int) < (N1 : Int) := by omega
                    have m0 : (0 : Int) ≤ (m : Int) := by omega
                    have m1 : (m : Int) < (n : Int) := by omega
                    have HX := Lib.hid hx
                    have HL1 : Hid (x.length = n1) := hl1
                    have HR1 := Lib.hid hr1
                    have HRR1 := Lib.hid hrr
                    have HQ := Lib.hid hq
                    have HB := Lib.hid hb
                    have hszi : w.heap.size ≤ wi.heap.size := hb.size
                    have cb1 := ref_Begins (some ad1) (some adr) n1 nr c1 cr1 x r wi hr1 hrr (by unfold maxLen; omega) (by unfold maxLen; omega) hrc1
                    have cb2 := fun q => ref_Begins (some adr) (some ad1) nr n1 cr1 c1 r x (wi.drewN q) (hrr.drewN q) (hr1.drewN q) (by unfold maxLen; omega) (by unfold maxLen; omega) hk1
                    clear hx hl1 hr1 hm1 hrr hq hb hN1 hroom
                    cases hb1 : begB x r
                    · rw [hb1] at cb1
                      cases hb2 : begB r x
                      · rw [hb2] at cb2
                        have HNX : Hid (nx x r = none) := by unfold Hid nx; rw [hb1, hb2]; simp
                        clear hb1 hb2
                        go_wp2_with (first | (go_at_call 28; refine cb1.mono ?_; clear cb1; rintro e w7 ⟨rfl, m7, rfl⟩) | (go_at_call 28; refine (cb2 _).mono ?_; clear cb2; rintro e w7 ⟨rfl, m8, rfl⟩))
                        have HS : Hid (Reads wi w.heap.size none 0 (vb [])) := Reads.none_
                        go_loopw [104, 14, 16] (fun tv bv _ wi2 => ∃ (t q : Nat) (bb : Bool), t ≤ N1 ∧ tv = .int .i64 t ∧ bv = .bool bb ∧ wi2 = wi.drewN q ∧ Hid (bb = (false && !(L'.take t).any (fun y => decide (y = []))))) (fun tv _ _ _ => N1 - (intOf tv).toNat)
                        case atStart => exact ⟨0, m7 + m8, _, by omega, rfl, rfl, by first | rfl | rw [World.drewN_drewN], rfl⟩
                        case round =>
                          obtain ⟨t, q, bb, ht, rfl, rfl, rfl, hbb⟩ := hrel
                          by_cases hltt : t < N1
                          · have hy : L'[t]? = some (L'[t]'(by rw [HNL.out]; exact hltt)) := List.getElem?_eq_getElem (by rw [HNL.out]; exact hltt)
                            generalize L'[t]'(by rw [HNL.out]; exact hltt) = y at hy
                            obtain ⟨ady, Ay, ny, cy, e, hcy, hyr, hyc, hy8⟩ := HQ.out.row hy
                            injection e with e
                            subst e
                            have cq2 := ref_Bools Ay (none) ny 0 cy (0) y [] (decide (y = [])) (wi.drewN q) (hyr.drewN q) (HS.out.drewN q) (by unfold maxLen; omega) rfl
                            have HT := Lib.hid (any_take (s := []) hy)
                            have t0 : (0 : Int) ≤ (t : Int) := by omega
                            have t1 : (t : Int) < (N1 : Int) := by omega
                            clear hy hyr
                            cases hys : decide (y = [])
                            · rw [hys] at cq2
                              have HBB : Hid (bb = (false && !(L'.take (t + 1)).any (fun y => decide (y = [])))) := by unfold Hid; rw [HT.out, hys, Bool.or_false]; exact hbb.out
                              clear hys
                              go_wp2_with (go_at_call 9; refine cq2.mono ?_; clear cq2; rintro e w7 ⟨rfl, m9, rfl⟩)
                              go_roundw
                              case rel => exact ⟨t + 1, q + m9, bb, by omega, by go_num, rfl, by first | rfl | rw [World.drewN_drewN], HBB.out⟩
                              case measure => simp [intOf] <;> omega
                            · rw [hys] at cq2
                              have HBB : Hid (false = (false && !(L'.take (t + 1)).any (fun y => decide (y = [])))) := by unfold Hid; rw [HT.out, hys]; simp
                              clear hys
                              go_wp2_with (go_at_call 9; refine cq2.mono ?_; clear cq2; rintro e w7 ⟨rfl, m9, rfl⟩)
                              go_roundw
                              case rel => exact ⟨t + 1, q + m9, false, by omega, by go_num, rfl, by first | rfl | rw [World.drewN_drewN], HBB.out⟩
                              case measure => simp [intOf] <;> omega
                          · obtain rfl : t = N1 := by omega
                            have t1 : ¬ (t : Int) < (t : Int) := by omega
                            have hmem : (L'.take t).any (fun y => decide (y = [])) = decide ([] ∈ L') := any_mem HNL.out rfl
                            have HBB : Hid (bb = (false && !decide ([] ∈ L'))) := by unfold Hid; rw [← hmem]; exact hbb.out
                            clear hmem hbb
                            obtain rfl : bb = false := by have := HBB.out; simpa using this
                            have HI : Hid (RInv C L' k (m + 1)) := hinv.out.stay hr.out HX.out (fun s' hs' => by rw [HNX.out] at hs'; cases hs')
                            go_wp2
                            go_roundw
                            case rel => exact ⟨m + 1, L', by omega, by go_num, HQ.out.drewN q, below_drewN HB.out q, HI.out, hmeas.out, hr.out⟩
                            case measure => simp [intOf] <;> omega
                      · rw [hb2] at cb2
                        have HNX : Hid (nx x r = some (x.drop r.length)) := by unfold Hid nx; rw [hb1, hb2]; simp
                        have hle : nr ≤ n1 := by
                          have := congrArg List.length (begB_true hb2)
                          rw [List.length_append, HL1.out, HRL.out] at this; omega
                        have l0 : (0 : Int) ≤ (nr : Int) := by omega
                        have l1 : (nr : Int) ≤ (n1 : Int) := by omega
                        rw [HRL.out] at HNX
                        have HS := Lib.hid (reads_fromU HR1.out hn10 hle hk1)
                        clear hb1 hb2
                        by_cases hcc : c1 = nr
                        · rw [if_pos hcc] at HS
                          obtain rfl : nr = c1 := hcc.symm
                          go_wp2_with (first | (go_at_call 28; refine cb1.mono ?_; clear cb1; rintro e w7 ⟨rfl, m7, rfl⟩) | (go_at_call 28; refine (cb2 _).mono ?_; clear cb2; rintro e w7 ⟨rfl, m8, rfl⟩))
                          obtain ⟨s, hs⟩ : ∃ s, s = x.drop nr := ⟨_, rfl⟩
                          rw [← hs] at HS HNX
                          clear hs
                          have hns0 : n1 - nr = 0 := by omega
                          have hns8 : 0 ≤ 8 := by omega
                          have hncs : 0 ≤ 0 := Nat.le_refl _
                          rw [hns0] at HS
                          clear hns0
                          go_loopw [104, 14, 16] (fun tv bv _ wi2 => ∃ (t q : Nat) (bb : Bool), t ≤ N1 ∧ tv = .int .i64 t ∧ bv = .bool bb ∧ wi2 = wi.drewN q ∧ Hid (bb = (true && !(L'.take t).any (fun y => decide (y = s))))) (fun tv _ _ _ => N1 - (intOf tv).toNat)
                          case atStart => exact ⟨0, m7 + m8, _, by omega, rfl, rfl, by first | rfl | rw [World.drewN_drewN], rfl⟩
                          case round =>
                            obtain ⟨t, q, bb, ht, rfl, rfl, rfl, hbb⟩ := hrel
                            by_cases hltt : t < N1
                            · have hy : L'[t]? = some (L'[t]'(by rw [HNL.out]; exact hltt)) := List.getElem?_eq_getElem (by rw [HNL.out]; exact hltt)
                              generalize L'[t]'(by rw [HNL.out]; exact hltt) = y at hy
                              obtain ⟨ady, Ay, ny, cy, e, hcy, hyr, hyc, hy8⟩ := HQ.out.row hy
                              injection e with e
                              subst e
                              have cq2 := ref_Bools Ay (some ad1) ny 0 cy (0) y s (decide (y = s)) (wi.drewN q) (hyr.drewN q) (HS.out.drewN q) (by unfold maxLen; omega) rfl
                              have HT := Lib.hid (any_take (s := s) hy)
                              have t0 : (0 : Int) ≤ (t : Int) := by omega
                              have t1 : (t : Int) < (N1 : Int) := by omega
                              clear hy hyr
                              cases hys : decide (y = s)
                              · rw [hys] at cq2
                                have HBB : Hid (bb = (true && !(L'.take (t + 1)).any (fun y => decide (y = s)))) := by unfold Hid; rw [HT.out, hys, Bool.or_false]; exact hbb.out
                                clear hys
                                go_wp2_with (go_at_call 9; refine cq2.mono ?_; clear cq2; rintro e w7 ⟨rfl, m9, rfl⟩)
                                go_roundw
                                case rel => exact ⟨t + 1, q + m9, bb, by omega, by go_num, rfl, by first | rfl | rw [World.drewN_drewN], HBB.out⟩
                                case measure => simp [intOf] <;> omega
                              · rw [hys] at cq2
                                have HBB : Hid (false = (true && !(L'.take (t + 1)).any (fun y => decide (y = s)))) := by unfold Hid; rw [HT.out, hys]; simp
                                clear hys
                                go_wp2_with (go_at_call 9; refine cq2.mono ?_; clear cq2; rintro e w7 ⟨rfl, m9, rfl⟩)
                                go_roundw
                                case rel => exact ⟨t + 1, q + m9, false, by omega, by go_num, rfl, by first | rfl | rw [World.drewN_drewN], HBB.out⟩
                                case measure => simp [intOf] <;> omega
                            · obtain rfl : t = N1 := by omega
                              have t1 : ¬ (t : Int) < (t : Int) := by omega
                              have hmem : (L'.take t).any (fun y => decide (y = s)) = decide (s ∈ L') := any_mem HNL.out rfl
                              have HBB : Hid (bb = (true && !decide (s ∈ L'))) := by unfold Hid; rw [← hmem]; exact hbb.out
                              clear hmem hbb
                              cases bb
                              · have HI : Hid (RInv C L' k (m + 1)) := hinv.out.stay hr.out HX.out (fun s' hs' => by rw [HNX.out] at hs'; injection hs' with hs'; subst hs'; have := HBB.out; simpa using this)
                                go_wp2
                                go_roundw
                                case rel => exact ⟨m + 1, L', by omega, by go_num, HQ.out.drewN q, below_drewN HB.out q, HI.out, hmeas.out, hr.out⟩
                                case measure => simp [intOf] <;> omega
                              · have hnew : s ∉ L' := by have := HBB.out; simpa using this
                                have hpu := hinv.out.push H8.out hr.out HX.out HNX.out hnew
                                have HI := Lib.hid hpu.1
                                have HM2 : Hid ((L' ++ [s]).length + unseen C (fun r => decide (r ∈ L' ++ [s])) ≤ gk + k) := by have h1 := hmeas.out; have h2 := hpu.2; unfold Hid; rw [List.length_append]; simp only [List.length_cons, List.length_nil]; omega
                                have HRK : Hid ((L' ++ [s])[k]? = some r) := by unfold Hid; rw [List.getElem?_append_left (by rw [HNL.out]; exact hkN)]; exact hr.out
                                clear hpu hnew
                                obtain ⟨xss, ho, hxl, hxs⟩ := HQ.out
                                have hxl8 : xss.length ≤ 136 := by rw [hxl, HNL.out]; exact hN1136
                                have HO := Lib.hid ho
                                have HXL := Lib.hid hxl
                                have HXS := Lib.hid hxs
                                clear ho hxl hxs
                                go_wp2_with (at_builtin; refine app1 el_rowsU rfl _ _ rfl rfl (HO.out.drewN q) _ _ rfl rfl (by unfold maxLen; omega) (by omega) (by show w.heap.size ≤ wi.heap.size; omega) ?_; intro v6 w6 ho6 hb6 hg6 hat6)
                                have hbW : Below w.heap.size wi w6 := (below_drewN (Below.refl _ wi) q).trans hb6
                                have hQ6 := RR.push HXL.out HXS.out hbW ho6 HS.out hncs hns8
                                clear hg6 hat6 ho6 hb6
                                go_roundw
                                case rel => exact ⟨m + 1, L' ++ [s], by omega, by go_num, hQ6, HB.out.trans hbW, HI.out, HM2.out, HRK.out⟩
                                case measure => simp [intOf] <;> omega
                        · rw [if_neg hcc] at HS
                          go_wp2_with (first | (go_at_call 28; refine cb1.mono ?_; clear cb1; rintro e w7 ⟨rfl, m7, rfl⟩) | (go_at_call 28; refine (cb2 _).mono ?_; clear cb2; rintro e w7 ⟨rfl, m8, rfl⟩))
                          obtain ⟨s, hs⟩ : ∃ s, s = x.drop nr := ⟨_, rfl⟩
                          rw [← hs] at HS HNX
                          clear hs
                          obtain ⟨ns, hns⟩ : ∃ ns, ns = n1 - nr := ⟨_, rfl⟩
                          have hns8 : ns ≤ 8 := by omega
                          have hncs : ns ≤ c1 - nr := by omega
                          rw [← hns] at HS ⊢
                          clear hns
                          go_loopw [104, 14, 16] (fun tv bv _ wi2 => ∃ (t q : Nat) (bb : Bool), t ≤ N1 ∧ tv = .int .i64 t ∧ bv = .bool bb ∧ wi2 = wi.drewN q ∧ Hid (bb = (true && !(L'.take t).any (fun y => decide (y = s))))) (fun tv _ _ _ => N1 - (intOf tv).toNat)
                          case atStart => exact ⟨0, m7 + m8, _, by omega, rfl, rfl, by first | rfl | rw [World.drewN_drewN], rfl⟩
                          case round =>
                            obtain ⟨t, q, bb, ht, rfl, rfl, rfl, hbb⟩ := hrel
                            by_cases hltt : t < N1
                            · have hy : L'[t]? = some (L'[t]'(by rw [HNL.out]; exact hltt)) := List.getElem?_eq_getElem (by rw [HNL.out]; exact hltt)
                              generalize L'[t]'(by rw [HNL.out]; exact hltt) = y at hy
                              obtain ⟨ady, Ay, ny, cy, e, hcy, hyr, hyc, hy8⟩ := HQ.out.row hy
                              injection e with e
                              subst e
                              have cq2 := ref_Bools Ay (some (ad1.add nr)) ny ns cy (c1 - nr) y s (decide (y = s)) (wi.drewN q) (hyr.drewN q) (HS.out.drewN q) (by unfold maxLen; omega) rfl
                              have HT := Lib.hid (any_take (s := s) hy)
                              have t0 : (0 : Int) ≤ (t : Int) := by omega
                              have t1 : (t : Int) < (N1 : Int) := by omega
                              clear hy hyr
                              cases hys : decide (y = s)
                              · rw [hys] at cq2
                                have HBB : Hid (bb = (true && !(L'.take (t + 1)).any (fun y => decide (y = s)))) := by unfold Hid; rw [HT.out, hys, Bool.or_false]; exact hbb.out
                                clear hys
                                go_wp2_with (go_at_call 9; refine cq2.mono ?_; clear cq2; rintro e w7 ⟨rfl, m9, rfl⟩)
                                go_roundw
                                case rel => exact ⟨t + 1, q + m9, bb, by omega, by go_num, rfl, by first | rfl | rw [World.drewN_drewN], HBB.out⟩
                                case measure => simp [intOf] <;> omega
                              · rw [hys] at cq2
                                have HBB : Hid (false = (true && !(L'.take (t + 1)).any (fun y => decide (y = s)))) := by unfold Hid; rw [HT.out, hys]; simp
                                clear hys
                                go_wp2_with (go_at_call 9; refine cq2.mono ?_; clear cq2; rintro e w7 ⟨rfl, m9, rfl⟩)
                                go_roundw
                                case rel => exact ⟨t + 1, q + m9, false, by omega, by go_num, rfl, by first | rfl | rw [World.drewN_drewN], HBB.out⟩
                                case measure => simp [intOf] <;> omega
                            · obtain rfl : t = N1 := by omega
                              have t1 : ¬ (t : Int) < (t : Int) := by omega
                              have hmem : (L'.take t).any (fun y => decide (y = s)) = decide (s ∈ L') := any_mem HNL.out rfl
                              have HBB : Hid (bb = (true && !decide (s ∈ L'))) := by unfold Hid; rw [← hmem]; exact hbb.out
                              clear hmem hbb
                              cases bb
                              · have HI : Hid (RInv C L' k (m + 1)) := hinv.out.stay hr.out HX.out (fun s' hs' => by rw [HNX.out] at hs'; injection hs' with hs'; subst hs'; have := HBB.out; simpa using this)
                                go_wp2
                                go_roundw
                                case rel => exact ⟨m + 1, L', by omega, by go_num, HQ.out.drewN q, below_drewN HB.out q, HI.out, hmeas.out, hr.out⟩
                                case measure => simp [intOf] <;> omega
                              · have hnew : s ∉ L' := by have := HBB.out; simpa using this
                                have hpu := hinv.out.push H8.out hr.out HX.out HNX.out hnew
                                have HI := Lib.hid hpu.1
                                have HM2 : Hid ((L' ++ [s]).length + unseen C (fun r => decide (r ∈ L' ++ [s])) ≤ gk + k) := by have h1 := hmeas.out; have h2 := hpu.2; unfold Hid; rw [List.length_append]; simp only [List.length_cons, List.length_nil]; omega
                                have HRK : Hid ((L' ++ [s])[k]? = some r) := by unfold Hid; rw [List.getElem?_append_left (by rw [HNL.out]; exact hkN)]; exact hr.out
                                clear hpu hnew
                                obtain ⟨xss, ho, hxl, hxs⟩ := HQ.out
                                have hxl8 : xss.length ≤ 136 := by rw [hxl, HNL.out]; exact hN1136
                                have HO := Lib.hid ho
                                have HXL := Lib.hid hxl
                                have HXS := Lib.hid hxs
                                clear ho hxl hxs
                                go_wp2_with (at_builtin; refine app1 el_rowsU rfl _ _ rfl rfl (HO.out.drewN q) _ _ rfl rfl (by unfold maxLen; omega) (by omega) (by show w.heap.size ≤ wi.heap.size; omega) ?_; intro v6 w6 ho6 hb6 hg6 hat6)
                                have hbW : Below w.heap.size wi w6 := (below_drewN (Below.refl _ wi) q).trans hb6
                                have hQ6 := RR.push HXL.out HXS.out hbW ho6 HS.out hncs hns8
                                clear hg6 hat6 ho6 hb6
                                go_roundw
                                case rel => exact ⟨m + 1, L' ++ [s], by omega, by go_num, hQ6, HB.out.trans hbW, HI.out, HM2.out, HRK.out⟩
                                case measure => simp [intOf] <;> omega
                    · rw [hb1] at cb1
                      have HNX : Hid (nx x r = some (r.drop x.length)) := by unfold Hid nx; rw [hb1]; simp
                      have hle : n1 ≤ nr := by
                        have := congrArg List.length (begB_true hb1)
                        rw [List.length_append, HL1.out, HRL.out] at this; omega
                      have l0 : (0 : Int) ≤ (n1 : Int) := by omega
                      have l1 : (n1 : Int) ≤ (nr : Int) := by omega
                      rw [HL1.out] at HNX
                      have HS := Lib.hid (reads_fromU HRR1.out hnr0 hle hrc1)
                      clear hb1 cb2
                      by_cases hcc : cr1 = n1
                      · rw [if_pos hcc] at HS
                        obtain rfl : n1 = cr1 := hcc.symm
                        go_wp2_with (go_at_call 28; refine cb1.mono ?_; clear cb1; rintro e w7 ⟨rfl, m7, rfl⟩)
                        obtain ⟨s, hs⟩ : ∃ s, s = r.drop n1 := ⟨_, rfl⟩
                        rw [← hs] at HS HNX
                        clear hs
                        have hns0 : nr - n1 = 0 := by omega
                        have hns8 : 0 ≤ 8 := by omega
                        have hncs : 0 ≤ 0 := Nat.le_refl _
                        rw [hns0] at HS
                        clear hns0
                        go_loopw [104, 14, 16] (fun tv bv _ wi2 => ∃ (t q : Nat) (bb : Bool), t ≤ N1 ∧ tv = .int .i64 t ∧ bv = .bool bb ∧ wi2 = wi.drewN q ∧ Hid (bb = (true && !(L'.take t).any (fun y => decide (y = s))))) (fun tv _ _ _ => N1 - (intOf tv).toNat)
                        case atStart => exact ⟨0, m7, _, by omega, rfl, rfl, by first | rfl | rw [World.drewN_drewN], rfl⟩
                        case round =>
                          obtain ⟨t, q, bb, ht, rfl, rfl, rfl, hbb⟩ := hrel
                          by_cases hltt : t < N1
                          · have hy : L'[t]? = some (L'[t]'(by rw [HNL.out]; exact hltt)) := List.getElem?_eq_getElem (by rw [HNL.out]; exact hltt)
                            generalize L'[t]'(by rw [HNL.out]; exact hltt) = y at hy
                            obtain ⟨ady, Ay, ny, cy, e, hcy, hyr, hyc, hy8⟩ := HQ.out.row hy
                            injection e with e
                            subst e
                            have cq2 := ref_Bools Ay (some adr) ny 0 cy (0) y s (decide (y = s)) (wi.drewN q) (hyr.drewN q) (HS.out.drewN q) (by unfold maxLen; omega) rfl
                            have HT := Lib.hid (any_take (s := s) hy)
                            have t0 : (0 : Int) ≤ (t : Int) := by omega
                            have t1 : (t : Int) < (N1 : Int) := by omega
                            clear hy hyr
                            cases hys : decide (y = s)
                            · rw [hys] at cq2
                              have HBB : Hid (bb = (true && !(L'.take (t + 1)).any (fun y => decide (y = s)))) := by unfold Hid; rw [HT.out, hys, Bool.or_false]; exact hbb.out
                              clear hys
                              go_wp2_with (go_at_call 9; refine cq2.mono ?_; clear cq2; rintro e w7 ⟨rfl, m9, rfl⟩)
                              go_roundw
                              case rel => exact ⟨t + 1, q + m9, bb, by omega, by go_num, rfl, by first | rfl | rw [World.drewN_drewN], HBB.out⟩
                              case measure => simp [intOf] <;> omega
                            · rw [hys] at cq2
                              have HBB : Hid (false = (true && !(L'.take (t + 1)).any (fun y => decide (y = s)))) := by unfold Hid; rw [HT.out, hys]; simp
                              clear hys
                              go_wp2_with (go_at_call 9; refine cq2.mono ?_; clear cq2; rintro e w7 ⟨rfl, m9, rfl⟩)
                              go_roundw
                              case rel => exact ⟨t + 1, q + m9, false, by omega, by go_num, rfl, by first | rfl | rw [World.drewN_drewN], HBB.out⟩
                              case measure => simp [intOf] <;> omega
                          · obtain rfl : t = N1 := by omega
                            have t1 : ¬ (t : Int) < (t : Int) := by omega
                            have hmem : (L'.take t).any (fun y => decide (y = s)) = decide (s ∈ L') := any_mem HNL.out rfl
                            have HBB : Hid (bb = (true && !decide (s ∈ L'))) := by unfold Hid; rw [← hmem]; exact hbb.out
                            clear hmem hbb
                            cases bb
                            · have HI : Hid (RInv C L' k (m + 1)) := hinv.out.stay hr.out HX.out (fun s' hs' => by rw [HNX.out] at hs'; injection hs' with hs'; subst hs'; have := HBB.out; simpa using this)
                              go_wp2
                              go_roundw
                              case rel => exact ⟨m + 1, L', by omega, by go_num, HQ.out.drewN q, below_drewN HB.out q, HI.out, hmeas.out, hr.out⟩
                              case measure => simp [intOf] <;> omega
                            · have hnew : s ∉ L' := by have := HBB.out; simpa using this
                              have hpu := hinv.out.push H8.out hr.out HX.out HNX.out hnew
                              have HI := Lib.hid hpu.1
                              have HM2 : Hid ((L' ++ [s]).length + unseen C (fun r => decide (r ∈ L' ++ [s])) ≤ gk + k) := by have h1 := hmeas.out; have h2 := hpu.2; unfold Hid; rw [List.length_append]; simp only [List.length_cons, List.length_nil]; omega
                              have HRK : Hid ((L' ++ [s])[k]? = some r) := by unfold Hid; rw [List.getElem?_append_left (by rw [HNL.out]; exact hkN)]; exact hr.out
                              clear hpu hnew
                              obtain ⟨xss, ho, hxl, hxs⟩ := HQ.out
                              have hxl8 : xss.length ≤ 136 := by rw [hxl, HNL.out]; exact hN1136
                              have HO := Lib.hid ho
                              have HXL := Lib.hid hxl
                              have HXS := Lib.hid hxs
                              clear ho hxl hxs
                              go_wp2_with (at_builtin; refine app1 el_rowsU rfl _ _ rfl rfl (HO.out.drewN q) _ _ rfl rfl (by unfold maxLen; omega) (by omega) (by show w.heap.size ≤ wi.heap.size; omega) ?_; intro v6 w6 ho6 hb6 hg6 hat6)
                              have hbW : Below w.heap.size wi w6 := (below_drewN (Below.refl _ wi) q).trans hb6
                              have hQ6 := RR.push HXL.out HXS.out hbW ho6 HS.out hncs hns8
                              clear hg6 hat6 ho6 hb6
                              go_roundw
                              case rel => exact ⟨m + 1, L' ++ [s], by omega, by go_num, hQ6, HB.out.trans hbW, HI.out, HM2.out, HRK.out⟩
                              case measure => simp [intOf] <;> omega
                      · rw [if_neg hcc] at HS
                        go_wp2_with (go_at_call 28; refine cb1.mono ?_; clear cb1; rintro e w7 ⟨rfl, m7, rfl⟩)
                        obtain ⟨s, hs⟩ : ∃ s, s = r.drop n1 := ⟨_, rfl⟩
                        rw [← hs] at HS HNX
                        clear hs
                        obtain ⟨ns, hns⟩ : ∃ ns, ns = nr - n1 := ⟨_, rfl⟩
                        have hns8 : ns ≤ 8 := by omega
                        have hncs : ns ≤ cr1 - n1 := by omega
                        rw [← hns] at HS ⊢
                        clear hns
                        go_loopw [104, 14, 16] (fun tv bv _ wi2 => ∃ (t q : Nat) (bb : Bool), t ≤ N1 ∧ tv = .int .i64 t ∧ bv = .bool bb ∧ wi2 = wi.drewN q ∧ Hid (bb = (true && !(L'.take t).any (fun y => decide (y = s))))) (fun tv _ _ _ => N1 - (intOf tv).toNat)
                        case atStart => exact ⟨0, m7, _, by omega, rfl, rfl, by first | rfl | rw [World.drewN_drewN], rfl⟩
                        case round =>
                          obtain ⟨t, q, bb, ht, rfl, rfl, rfl, hbb⟩ := hrel
                          by_cases hltt : t < N1
                          · have hy : L'[t]? = some (L'[t]'(by rw [HNL.out]; exact hltt)) := List.getElem?_eq_getElem (by rw [HNL.out]; exact hltt)
                            generalize L'[t]'(by rw [HNL.out]; exact hltt) = y at hy
                            obtain ⟨ady, Ay, ny, cy, e, hcy, hyr, hyc, hy8⟩ := HQ.out.row hy
                            injection e with e
                            subst e
                            have cq2 := ref_Bools Ay (some (adr.add n1)) ny ns cy (cr1 - n1) y s (decide (y = s)) (wi.drewN q) (hyr.drewN q) (HS.out.drewN q) (by unfold maxLen; omega) rfl
                            have HT := Lib.hid (any_take (s := s) hy)
                            have t0 : (0 : Int) ≤ (t : Int) := by omega
                            have t1 : (t : Int) < (N1 : Int) := by omega
                            clear hy hyr
                            cases hys : decide (y = s)
                            · rw [hys] at cq2
                              have HBB : Hid (bb = (true && !(L'.take (t + 1)).any (fun y => decide (y = s)))) := by unfold Hid; rw [HT.out, hys, Bool.or_false]; exact hbb.out
                              clear hys
                              go_wp2_with (go_at_call 9; refine cq2.mono ?_; clear cq2; rintro e w7 ⟨rfl, m9, rfl⟩)
                              go_roundw
                              case rel => exact ⟨t + 1, q + m9, bb, by omega, by go_num, rfl, by first | rfl | rw [World.drewN_drewN], HBB.out⟩
                              case measure => simp [intOf] <;> omega
                            · rw [hys] at cq2
                              have HBB : Hid (false = (true && !(L'.take (t + 1)).any (fun y => decide (y = s)))) := by unfold Hid; rw [HT.out, hys]; simp
                              clear hys
                              go_wp2_with (go_at_call 9; refine cq2.mono ?_; clear cq2; rintro e w7 ⟨rfl, m9, rfl⟩)
                              go_roundw
                              case rel => exact ⟨t + 1, q + m9, false, by omega, by go_num, rfl, by first | rfl | rw [World.drewN_drewN], HBB.out⟩
                              case measure => simp [intOf] <;> omega
                          · obtain rfl : t = N1 := by omega
                            have t1 : ¬ (t : Int) < (t : Int) := by omega
                            have hmem : (L'.take t).any (fun y => decide (y = s)) = decide (s ∈ L') := any_mem HNL.out rfl
                            have HBB : Hid (bb = (true && !decide (s ∈ L'))) := by unfold Hid; rw [← hmem]; exact hbb.out
                            clear hmem hbb
                            cases bb
                            · have HI : Hid (RInv C L' k (m + 1)) := hinv.out.stay hr.out HX.out (fun s' hs' => by rw [HNX.out] at hs'; injection hs' with hs'; subst hs'; have := HBB.out; simpa using this)
                              go_wp2
                              go_roundw
                              case rel => exact ⟨m + 1, L', by omega, by go_num, HQ.out.drewN q, below_drewN HB.out q, HI.out, hmeas.out, hr.out⟩
                              case measure => simp [intOf] <;> omega
                            · have hnew : s ∉ L' := by have := HBB.out; simpa using this
                              have hpu := hinv.out.push H8.out hr.out HX.out HNX.out hnew
                              have HI := Lib.hid hpu.1
                              have HM2 : Hid ((L' ++ [s]).length + unseen C (fun r => decide (r ∈ L' ++ [s])) ≤ gk + k) := by have h1 := hmeas.out; have h2 := hpu.2; unfold Hid; rw [List.length_append]; simp only [List.length_cons, List.length_nil]; omega
                              have HRK : Hid ((L' ++ [s])[k]? = some r) := by unfold Hid; rw [List.getElem?_append_left (by rw [HNL.out]; exact hkN)]; exact hr.out
                              clear hpu hnew
                              obtain ⟨xss, ho, hxl, hxs⟩ := HQ.out
                              have hxl8 : xss.length ≤ 136 := by rw [hxl, HNL.out]; exact hN1136
                              have HO := Lib.hid ho
                              have HXL := Lib.hid hxl
                              have HXS := Lib.hid hxs
                              clear ho hxl hxs
                              go_wp2_with (at_builtin; refine app1 el_rowsU rfl _ _ rfl rfl (HO.out.drewN q) _ _ rfl rfl (by unfold maxLen; omega) (by omega) (by show w.heap.size ≤ wi.heap.size; omega) ?_; intro v6 w6 ho6 hb6 hg6 hat6)
                              have hbW : Below w.heap.size wi w6 := (below_drewN (Below.refl _ wi) q).trans hb6
                              have hQ6 := RR.push HXL.out HXS.out hbW ho6 HS.out hncs hns8
                              clear hg6 hat6 ho6 hb6
                              go_roundw
                              case rel => exact ⟨m + 1, L' ++ [s], by omega, by go_num, hQ6, HB.out.trans hbW, HI.out, HM2.out, HRK.out⟩
                              case measure => simp [intOf] <;> omega
                  · obtain rfl : n = m := by omega
                    have m1 : ¬ (n : Int) < (n : Int) := by omega
                    have HF : Hid (RInv C L' (k + 1) 0) := hinv.out.round hr.out HNE.out (by rw [HLEN.out]; exact Nat.le_refl _)
                    have hkN : k < N1 := by rw [← hN1]; exact (List.getElem?_eq_some_iff.1 hr.out).1
                    have HQ := Lib.hid hq
                    have HM2 : Hid (L'.length + unseen C (fun r => decide (r ∈ L')) ≤ gk - 1 + (k + 1)) := by have := hmeas.out; unfold Hid; omega
                    clear hroom hN1 hq
                    go_wp2
                    go_roundg (gk - 1)
                    case measure => omega
                    case rel => exact ⟨k + 1, L', by go_num, HQ.out, hb, HF.out, HM2.out, by rw [HNL.out]; omega⟩
            · obtain ⟨N, hN⟩ : ∃ N, L.length = N := ⟨_, rfl⟩
              have HU : Hid (uniB C = true) := uniB_true ⟨HC.out, hinv.out.done (by omega)⟩
              rw [hN] at hk hkL ⊢
              have i1 : ¬ (k : Int) < (N : Int) := by omega
              clear hq hinv hmeas hroom hN
              go_wp2
              go_ret
              exact ⟨ret_b HU.out.symm, hb⟩
end Go.Proofs.Ytpbffbhebdcpbaa

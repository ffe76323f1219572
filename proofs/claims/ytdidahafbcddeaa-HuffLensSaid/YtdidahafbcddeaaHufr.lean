/-
  quipuref.Huffman.
-/
import Derived.Test.YtdidahafbcddeaaProg
import Derived.Test.YtdidahafbcddeaaHufm
import Derived.Test.YtdidahafbcddeaaOwn
import Derived.Test.YtdidahafbcddeaaStore
import Derived.Test.YtdidahafbcddeaaBits
import Derived.Test.YtdidahafbcddeaaBit64
import Derived.Test.YtdidahafbcddeaaQuiet
set_option linter.unusedVariables false
namespace Go.Proofs.Ytdidahafbcddeaa
open Go.RowKit

theorem TC.le {S : List Nat} {c : Nat} (h : TC S c) : c + S.sum ≤ S.length * S.sum := by
  induction h with
  | leaf w => simp
  | @node A B S c1 c2 h1 h2 hs ih1 ih2 =>
    have n1 := List.length_pos_iff.2 h1.ne
    have n2 := List.length_pos_iff.2 h2.ne
    rw [hs.length_eq, sum_perm hs, List.length_append, List.sum_append]
    generalize A.sum = x at *
    generalize B.sum = y at *
    obtain ⟨p, hp⟩ : ∃ p, A.length = p + 1 := ⟨A.length - 1, by omega⟩
    obtain ⟨q, hq⟩ : ∃ q, B.length = q + 1 := ⟨B.length - 1, by omega⟩
    rw [hp] at ih1 ⊢
    rw [hq] at ih2 ⊢
    simp only [Nat.add_mul, Nat.mul_add, Nat.one_mul] at *
    have := Nat.zero_le (p * y)
    have := Nat.zero_le (q * x)
    omega
theorem getD_le {ws : List Nat} {B : Nat} (h : ∀ x ∈ ws, x ≤ B) (i : Nat) : ws.getD i 0 ≤ B := by
  rw [List.getD_eq_getElem?_getD]
  cases hx : ws[i]? with
  | none => simp
  | some x => exact h x (List.mem_of_getElem? hx)
theorem wlS_le {ws : List Nat} {B : Nat} (h : ∀ x ∈ ws, x ≤ B) (s : Nat) : (wlS ws s).sum ≤ 8 * B ∧ (wlS ws s).length ≤ 8 := by
  have hl : (idxS s).length ≤ 8 := by
    have := List.length_filter_le (fun i => s.testBit i) (List.range 8)
    simpa [idxS] using this
  have hsum : ∀ l : List Nat, (l.map fun i => ws.getD i 0).sum ≤ l.length * B := by
    intro l
    induction l with
    | nil => simp
    | cons x l ih =>
      have := getD_le h x
      simp only [List.map_cons, List.sum_cons, List.length_cons, Nat.succ_mul]
      omega
  refine ⟨Nat.le_trans (hsum _) (Nat.mul_le_mul_right _ hl), by unfold wlS; rw [List.length_map]; exact hl⟩
theorem MinT.bd {ws : List Nat} (h : ∀ x ∈ ws, x ≤ 1048576) {s c : Nat} (hm : MinT (wlS ws s) c) : c ≤ 67108864 := by
  obtain ⟨h1, h2⟩ := wlS_le h s
  have h3 := hm.1.le
  have h4 : (wlS ws s).length * (wlS ws s).sum ≤ 8 * (8 * 1048576) := Nat.mul_le_mul h2 h1
  omega
/-- what the table tells so far -/
structure HufT (ws T : List Nat) (m s : Nat) : Prop where
  len : T.length = m
  ok : ∀ a, 0 < a → a < s → MinT (wlS ws a) (T.getD a 0)
  z0 : T.getD 0 0 = 0
  zs : ∀ a, s ≤ a → T.getD a 0 = 0
theorem HufT.start (ws : List Nat) (m : Nat) : HufT ws (List.replicate m 0) m 1 := by
  have hz : ∀ a, (List.replicate m 0).getD a 0 = 0 := fun a => by
    rw [List.getD_eq_getElem?_getD, List.getElem?_replicate]
    split <;> rfl
  exact ⟨by simp, fun a h1 h2 => by omega, hz 0, fun a _ => hz a⟩
theorem HufT.bd {ws T : List Nat} {m s : Nat} (h : HufT ws T m s) (hw : ∀ x ∈ ws, x ≤ 1048576) (a : Nat) : T.getD a 0 ≤ 67108864 := by
  rcases Nat.eq_zero_or_pos a with h0 | h0
  · subst h0; rw [h.z0]; omega
  · rcases Nat.lt_or_ge a s with h1 | h1
    · exact (h.ok a h0 h1).bd hw
    · rw [h.zs a h1]; omega
theorem HufT.single {ws T : List Nat} {m s : Nat} (h : HufT ws T m s) (h1 : (idxS s).length = 1) (h0 : 0 < s) : HufT ws T m (s + 1) := by
  refine ⟨h.len, fun a a0 a1 => ?_, h.z0, fun a ha => h.zs a (by omega)⟩
  rcases Nat.lt_or_ge a s with h2 | h2
  · exact h.ok a a0 h2
  · obtain rfl : a = s := by omega
    rw [h.zs a (Nat.le_refl _)]
    have hl : (wlS ws a).length = 1 := by unfold wlS; rw [List.length_map]; exact h1
    match hw : wlS ws a, hl with
    | [x], _ => exact MinT.one x
theorem HufT.next {ws T : List Nat} {m s c : Nat} (h : HufT ws T m s) (hm : s < m) (h0 : 0 < s) (hc : MinT (wlS ws s) c) : HufT ws (T.set s c) m (s + 1) := by
  have hl := h.len
  have hne : ∀ a, a ≠ s → (T.set s c).getD a 0 = T.getD a 0 := fun a ha => by
    rw [List.getD_eq_getElem?_getD, List.getD_eq_getElem?_getD, List.getElem?_set_ne (by omega)]
  refine ⟨by rw [List.length_set]; exact hl, fun a a0 a1 => ?_, by rw [hne 0 (by omega)]; exact h.z0, fun a ha => by rw [hne a (by omega)]; exact h.zs a (by omega)⟩
  rcases Nat.lt_or_ge a s with h2 | h2
  · rw [hne a (by omega)]; exact h.ok a a0 h2
  · obtain rfl : a = s := by omega
    rw [List.getD_eq_getElem?_getD, List.getElem?_set_self (by omega)]
    exact hc
/-- the least so far -/
def BestP (t : Nat → Nat) (s a : Nat) (bz : Int) : Prop :=
  (bz = -1 ∧ ∀ a', 0 < a' → a' < a → a' &&& s ≠ a') ∨ ∃ b : Nat, bz = (b : Int) ∧ (∃ a', 0 < a' ∧ a' < a ∧ a' &&& s = a' ∧ t a' + t (s - a') = b) ∧ ∀ a', 0 < a' → a' < a → a' &&& s = a' → b ≤ t a' + t (s - a')
theorem BestP.start (t : Nat → Nat) (s : Nat) : BestP t s 1 (-1) := .inl ⟨rfl, fun a' h1 h2 => by omega⟩
theorem BestP.skip {t : Nat → Nat} {s a : Nat} {bz : Int} (h : BestP t s a bz) (hn : a &&& s ≠ a) : BestP t s (a + 1) bz := by
  rcases h with ⟨h1, h2⟩ | ⟨b, h1, ⟨a', e1, e2, e3, e4⟩, h3⟩
  · refine .inl ⟨h1, fun a' g1 g2 => ?_⟩
    rcases Nat.lt_or_ge a' a with g | g
    · exact h2 a' g1 g
    · obtain rfl : a' = a := by omega
      exact hn
  · refine .inr ⟨b, h1, ⟨a', e1, by omega, e3, e4⟩, fun a'' g1 g2 g3 => ?_⟩
    rcases Nat.lt_or_ge a'' a with g | g
    · exact h3 a'' g1 g g3
    · obtain rfl : a'' = a := by omega
      exact absurd g3 hn
theorem BestP.take {t : Nat → Nat} {s a x : Nat} {bz : Int} (h : BestP t s a bz) (h0 : 0 < a) (hs : a &&& s = a) (hx : t a + t (s - a) = x) (hb : bz < 0 ∨ (x : Int) < bz) : BestP t s (a + 1) (x : Int) := by
  refine .inr ⟨x, rfl, ⟨a, h0, by omega, hs, hx⟩, fun a' g1 g2 g3 => ?_⟩
  rcases Nat.lt_or_ge a' a with g | g
  · rcases h with ⟨h1, h2⟩ | ⟨b, h1, _, h3⟩
    · exact absurd g3 (h2 a' g1 g)
    · have := h3 a' g1 g g3; omega
  · obtain rfl : a' = a := by omega
    omega
theorem BestP.keep {t : Nat → Nat} {s a x : Nat} {bz : Int} (h : BestP t s a bz) (h0 : 0 < a) (hs : a &&& s = a) (hx : t a + t (s - a) = x) (h1 : ¬ bz < 0) (h2 : ¬ (x : Int) < bz) : BestP t s (a + 1) bz := by
  rcases h with ⟨h3, h4⟩ | ⟨b, h3, ⟨a', e1, e2, e3, e4⟩, h5⟩
  · omega
  · refine .inr ⟨b, h3, ⟨a', e1, by omega, e3, e4⟩, fun a'' g1 g2 g3 => ?_⟩
    rcases Nat.lt_or_ge a'' a with g | g
    · exact h5 a'' g1 g g3
    · obtain rfl : a'' = a := by omega
      omega
theorem BestP.done {ws T : List Nat} {m s : Nat} {bz : Int} (h : BestP (fun a => T.getD a 0) s s bz) (hT : HufT ws T m s) (hs : s < 256) (h2 : 2 ≤ (idxS s).length) : ∃ b : Nat, bz = (b : Int) ∧ MinT (wlS ws s) (b + (wlS ws s).sum) := by
  rcases h with ⟨h3, h4⟩ | ⟨b, h3, ⟨a', e1, e2, e3, e4⟩, h5⟩
  · obtain ⟨a, a0, a1, a2⟩ := some_sub hs h2
    exact absurd a2 (h4 a a0 a1)
  · exact ⟨b, h3, MinT.of_all h2 (fun a => T.getD a 0) hT.ok ⟨a', e1, e2, e3, e4⟩ h5⟩
theorem bitB_test (s k : Nat) : bitB s k = s.testBit k := by
  unfold bitB
  rw [Nat.testBit_eq_decide_div_mod_eq]
  rfl
theorem el_longH : Elem Try.prog 31 2 (.int .i64 0) 8 := Elem.mk' Try.underlying31 (by kernel_rfl) rfl
theorem table_at {w : World} {B g m a : Nat} {E : TypeId} {T : List Nat} (h : Own w B E (.slice (some ⟨g, 0, none⟩) m m) (vn .i64 T)) (hl : T.length = m) (ha : a < m) : w.cell? ⟨g, a, none⟩ = some (.int .i64 ((T.getD a 0 : Nat) : Int)) := by
  have := h.cellAt (j := a) ha
  rw [add_row] at this
  rw [this]
  simp [vn, List.getD, List.getElem?_eq_getElem (show a < T.length by omega)]
/-- what Huffman tells -/
def HufC (ws : List Nat) (c : Nat) : Prop := (ws = [] ∧ c = 0) ∨ MinT ws c
theorem HufT.result {ws T : List Nat} {m : Nat} (h : HufT ws T m m) (hm : m = 2 ^ ws.length) (h8 : ws.length ≤ 8) : HufC ws (T.getD (m - 1) 0) := by
  rcases Nat.eq_zero_or_pos ws.length with h0 | h0
  · have : ws = [] := List.eq_nil_of_length_eq_zero h0
    subst this
    simp at hm
    subst hm
    exact .inl ⟨rfl, h.z0⟩
  · refine .inr ?_
    have h2 : 2 ≤ m := by
      rw [hm]
      calc 2 = 2 ^ 1 := rfl
        _ ≤ 2 ^ ws.length := Nat.pow_le_pow_right (by omega) h0
    have := h.ok (m - 1) (by omega) (by omega)
    rw [show wlS ws (m - 1) = ws by rw [hm]; exact wlS_full h8] at this
    exact this
set_option maxRecDepth 100000 in
set_option maxHeartbeats 4000000 in
theorem ref_Huffman (A : Option Addr) (n c : Nat) (ws : List Nat) (w : World) (h : Reads w w.heap.size A n (vn .i64 ws)) (h8 : n ≤ 8) (hw : ∀ x ∈ ws, x ≤ 1048576) :
    Calls Try.prog 16 #[.slice A n c] w (fun e w' => ∃ r : Nat, e = .returned (.int .i64 (r : Int)) ∧ HufC ws r ∧ Below w.heap.size w w') := by
  have hln : ws.length = n := h.nat_len
  obtain ⟨m, hm⟩ : ∃ m, 2 ^ n = m := ⟨_, rfl⟩
  have es : wrap64 ((2 : Int) ^ n) = (m : Int) := by rw [wrap_pow n (by omega), hm]
  have m1 : 1 ≤ m := by rw [← hm]; exact Nat.pow_pos (by omega)
  have m256 : m ≤ 256 := by
    rw [← hm]
    calc 2 ^ n ≤ 2 ^ 8 := Nat.pow_le_pow_right (by omega) h8
      _ = 256 := rfl
  have HM := Lib.hid hm
  have HW := Lib.hid hw
  have HLN := Lib.hid hln
  have HR := Lib.hid h
  clear h hm hw hln
  go_enter Try.func16, Try.ntmps16
  go_wp2_with (at_make; refine mkN el_longH rfl _ _ rfl w.heap.size m rfl rfl (by first | rfl | exact es | (go_simp; exact es) | fail) (by first | rfl | exact es | (go_simp; exact es) | fail) (by omega) (by unfold maxLen; omega) (Nat.le_refl _) ?_; intro w1 ho1 hb1 hs1)
  rw [show List.replicate m (Value.int .i64 0) = vn .i64 (List.replicate m 0) by simp [vn]] at ho1
  have HO1 := Lib.hid ho1
  have HB1 := Lib.hid hb1
  clear ho1 hb1 hs1 es
  go_loopw [4] (fun iv wr => ∃ (s : Nat) (T : List Nat), 1 ≤ s ∧ s ≤ m ∧ iv = .int .i64 (s : Int) ∧ Own wr w.heap.size 2 (.slice (some ⟨w.heap.size, 0, none⟩) m m) (vn .i64 T) ∧ Hid (HufT ws T m s) ∧ Below w.heap.size w wr) (fun iv _ => m - (intOf iv).toNat)
  case atStart => exact ⟨1, _, Nat.le_refl _, m1, rfl, HO1.out, HufT.start ws m, HB1.out⟩
  case round =>
    obtain ⟨s, T, hs1, hsm, rfl, hown, hT, hbel⟩ := hrel
    obtain ⟨wo, rfl⟩ : ∃ x, x = wr := ⟨_, rfl⟩
    clear HO1 HB1
    by_cases hlt : s < m
    · have i0 : (0 : Int) ≤ (s : Int) := by omega
      have i1 : (s : Int) < (m : Int) := by omega
      have i2 : (1 : Int) ≤ (s : Int) := by omega
      have i3 : (s : Int) < 256 := by omega
      have hand : bits .and .i64 (s : Int) ((s : Int) - 1) = ((s &&& (s - 1) : Nat) : Int) := by
        rw [show (s : Int) - 1 = ((s - 1 : Nat) : Int) by omega]
        exact i64_and_nat s (s - 1) (by omega) (by omega)
      obtain ⟨k2, k1⟩ := idx_two ⟨s, by omega⟩
      simp only at k1 k2
      by_cases hp : s &&& (s - 1) = 0
      · have t1 : (bits .and .i64 (s : Int) ((s : Int) - 1) == 0) = true := by rw [hand, hp]; rfl
        have HT2 := Lib.hid (hT.out.single (k1 hp (by omega)) (by omega))
        have HO := Lib.hid hown
        have HB := Lib.hid hbel
        clear hand k1 k2 hp hown hT hbel
        go_wp2
        go_roundw
        case rel => exact ⟨s + 1, T, by omega, by omega, by go_num, HO.out, HT2.out, HB.out⟩
        case measure => simp [intOf] <;> omega
      · have t1 : (bits .and .i64 (s : Int) ((s : Int) - 1) == 0) = false := by rw [hand]; simp only [beq_eq_false_iff_ne, ne_eq]; omega
        have H2 := Lib.hid (k2 hp)
        have HO := Lib.hid hown
        have HB := Lib.hid hbel
        clear hand k1 k2 hp hown hbel
        go_wp2
        go_loop [5, 29] (fun sv iv => ∃ k : Nat, k ≤ n ∧ iv = .int .i64 (k : Int) ∧ sv = .int .i64 ((sumTo ws s k : Nat) : Int)) (fun _ iv => n - (intOf iv).toNat)
        case atStart => exact ⟨0, Nat.zero_le _, rfl, rfl⟩
        case round =>
          obtain ⟨k, hk, rfl, rfl⟩ := hrel
          by_cases hkn : k < n
          · obtain ⟨ad, x, rfl, hadb, hx, hc⟩ := (HR.out.below HB.out).nat_at hkn
            have hnx := sumTo_next ws s k
            have hsl := sumTo_le ws s 1048576 HW.out k
            have hxl := HW.out x (List.mem_of_getElem? hx)
            rw [show ws.getD k 0 = x by simp [List.getD, hx], ← bitB_test] at hnx
            have j0 : (0 : Int) ≤ (k : Int) := by omega
            have j1 : (k : Int) < (n : Int) := by omega
            have cb := ref_Bit s k wo (by omega) (by omega)
            obtain ⟨sm, hsm2⟩ : ∃ q, sumTo ws s k = q := ⟨_, rfl⟩
            rw [hsm2] at hnx hsl
            rw [hsm2]
            have hsl2 : sm ≤ 8388608 := by
              have : k * 1048576 ≤ 8 * 1048576 := Nat.mul_le_mul_right _ (by omega)
              omega
            have HNX := Lib.hid hnx
            clear hsm2 hx hsl
            cases hbt : bitB s k with
            | true =>
              rw [hbt] at cb
              have HBT := Lib.hid hbt
              clear hbt hnx
              go_wp2_with (go_at_call 35; refine cb.mono ?_; clear cb; rintro e w' ⟨rfl, rfl⟩)
              go_round
              case rel => exact ⟨k + 1, by omega, by go_num, by rw [HNX.out, HBT.out, if_pos rfl]; go_num⟩
              case measure => simp [intOf] <;> omega
            | false =>
              rw [hbt] at cb
              have HBT := Lib.hid hbt
              clear hbt hnx
              go_wp2_with (go_at_call 35; refine cb.mono ?_; clear cb; rintro e w' ⟨rfl, rfl⟩)
              go_round
              case rel => exact ⟨k + 1, by omega, by go_num, by rw [HNX.out, HBT.out, if_neg (by simp), Nat.add_zero]⟩
              case measure => simp [intOf] <;> omega
          · obtain rfl : n = k := by omega
            have hall : sumTo ws s n = (wlS ws s).sum := sumTo_all h8 (by rw [HM.out]; exact hlt)
            have hsb := (wlS_le HW.out s).1
            rw [hall]
            obtain ⟨sm, hsm2⟩ : ∃ q, (wlS ws s).sum = q := ⟨_, rfl⟩
            rw [hsm2] at hsb
            rw [hsm2]
            have HSM := Lib.hid hsm2
            clear hall hsm2 hk hkn
            go_wp2
            go_loopw [8, 9] (fun bv av wr => ∃ (a q : Nat) (bz : Int), 1 ≤ a ∧ a ≤ s ∧ av = .int .i64 (a : Int) ∧ bv = .int .i64 bz ∧ -1 ≤ bz ∧ bz ≤ 134217728 ∧ wr = wo.drewN q ∧ Hid (BestP (fun a => T.getD a 0) s a bz)) (fun _ av _ => s - (intOf av).toNat)
            case atStart => exact ⟨1, 0, -1, Nat.le_refl _, hs1, rfl, rfl, by omega, by omega, rfl, BestP.start _ _⟩
            case round =>
              obtain ⟨a, q, bz, ha1, has, rfl, rfl, hb1, hb2, rfl, hbp⟩ := hrel
              by_cases hal : a < s
              · have hand : bits .and .i64 (a : Int) (s : Int) = ((a &&& s : Nat) : Int) := i64_and_nat a s (by omega) (by omega)
                have j0 : (0 : Int) ≤ (a : Int) := by omega
                have j1 : (a : Int) < (s : Int) := by omega
                have j2 : (a : Int) < (m : Int) := by omega
                by_cases hsub : a &&& s = a
                · have t2 : (bits .and .i64 (a : Int) (s : Int) == (a : Int)) = true := by rw [hand, hsub]; simp
                  have u1 := table_at HO.out hT.out.len (show a < m by omega)
                  have u2 := table_at HO.out hT.out.len (show s - a < m by omega)
                  have bx := hT.out.bd HW.out a
                  have by' := hT.out.bd HW.out (s - a)
                  obtain ⟨x, hx⟩ : ∃ x, T.getD a 0 = x := ⟨_, rfl⟩
                  obtain ⟨y, hy⟩ : ∃ y, T.getD (s - a) 0 = y := ⟨_, rfl⟩
                  rw [hx] at u1 bx
                  rw [hy] at u2 by'
                  have hxy : T.getD a 0 + T.getD (s - a) 0 = x + y := by rw [hx, hy]
                  have HXY := Lib.hid hxy
                  have HSUB := Lib.hid hsub
                  obtain ⟨r, hr⟩ : ∃ r, s - a = r := ⟨_, rfl⟩
                  rw [hr] at u2
                  have hsa : IntKind.i64.wrap ((s : Int) - (a : Int)) = (r : Int) := by rw [IntKind.wrap_i64]; omega
                  have hxyw : IntKind.i64.wrap ((x : Int) + (y : Int)) = (x : Int) + (y : Int) := by rw [IntKind.wrap_i64]; omega
                  have j3 : (r : Int) < (m : Int) := by omega
                  have j4 : (0 : Int) ≤ (r : Int) := by omega
                  have hsa2 : (s : Int) - (a : Int) = (r : Int) := by omega
                  clear hand hsub hx hy hxy hr
                  by_cases hz : bz < 0
                  · have HBP := Lib.hid (hbp.out.take (by omega) HSUB.out HXY.out (.inl hz))
                    clear hbp
                    go_wp2
                    go_quiet (fail)
                    clear hsa hxyw hsa2
                    go_wp2
                    go_roundw
                    case rel => exact ⟨a + 1, q + nq, _, by omega, by omega, by go_num, rfl, by omega, by omega, by first | rfl | rw [World.drewN_drewN], HBP.out⟩
                    case measure => simp [intOf] <;> omega
                  · by_cases hl : (x : Int) + (y : Int) < bz
                    · have HBP := Lib.hid (hbp.out.take (by omega) HSUB.out HXY.out (.inr (by omega)))
                      clear hbp
                      go_wp2
                      go_quiet (fail)
                      clear hsa hxyw hsa2
                      go_wp2
                      go_roundw
                      case rel => exact ⟨a + 1, q + nq, _, by omega, by omega, by go_num, rfl, by omega, by omega, by first | rfl | rw [World.drewN_drewN], HBP.out⟩
                      case measure => simp [intOf] <;> omega
                    · have HBP := Lib.hid (hbp.out.keep (by omega) HSUB.out HXY.out hz (by omega))
                      clear hbp
                      go_wp2
                      go_quiet (fail)
                      clear hsa hxyw hsa2
                      go_wp2
                      go_roundw
                      case rel => exact ⟨a + 1, q + nq, bz, by omega, by omega, by go_num, rfl, by omega, by omega, by first | rfl | rw [World.drewN_drewN], HBP.out⟩
                      case measure => simp [intOf] <;> omega
                · have t2 : (bits .and .i64 (a : Int) (s : Int) == (a : Int)) = false := by rw [hand]; simp only [beq_eq_false_iff_ne, ne_eq]; omega
                  have HBP := Lib.hid (hbp.out.skip hsub)
                  clear hand hsub hbp
                  go_wp2
                  go_roundw
                  case rel => exact ⟨a + 1, q, bz, by omega, by omega, by go_num, rfl, by omega, by omega, rfl, HBP.out⟩
                  case measure => simp [intOf] <;> omega
              · obtain rfl : s = a := by omega
                obtain ⟨b, rfl, hmin⟩ := hbp.out.done hT.out (by omega) H2.out
                rw [HSM.out] at hmin
                have HT2 := Lib.hid (hT.out.next hlt (by omega) hmin)
                have hO2 := HO.out.drewN q
                have u1 := table_at hO2 hT.out.len hlt
                have u2 := hO2.frozenAt s
                rw [add_row] at u2
                have hset := hO2.set s (.int .i64 ((b + sm : Nat) : Int))
                rw [add_row, vn_set] at hset
                have HO2 := Lib.hid hset
                have HB2 := Lib.hid ((below_drewN HB.out q).setCell (p := ⟨w.heap.size, s, none⟩) (Nat.le_refl _) (.int .i64 ((b + sm : Nat) : Int)))
                clear hbp hmin hO2 hset hT
                go_wp2
                go_roundw
                case rel => exact ⟨s + 1, _, by omega, by omega, by go_num, HO2.out, HT2.out, HB2.out⟩
                case measure => simp [intOf] <;> omega
    · obtain rfl : m = s := by omega
      have hres := hT.out.result (by rw [HLN.out]; exact HM.out.symm) (by rw [HLN.out]; exact h8)
      have u1 := table_at hown hT.out.len (show m - 1 < m by omega)
      obtain ⟨p, rfl⟩ : ∃ p, m = p + 1 := ⟨m - 1, by omega⟩
      rw [Nat.add_sub_cancel] at u1 hres
      have HRES := Lib.hid hres
      have HB := Lib.hid hbel
      obtain ⟨r, hr⟩ : ∃ r, T.getD p 0 = r := ⟨_, rfl⟩
      rw [hr] at u1
      have HRR := Lib.hid hr
      clear hres hown hT hbel hr
      go_wp2
      go_ret
      exact ⟨r, rfl, by rw [← HRR.out]; exact HRES.out, HB.out⟩
end Go.Proofs.Ytdidahafbcddeaa

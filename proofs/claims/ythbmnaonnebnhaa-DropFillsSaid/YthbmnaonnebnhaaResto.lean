import Derived.Test.YthbmnaonnebnhaaRestd
set_option linter.unusedVariables false
namespace Go.Proofs.Ythbmnaonnebnhaa
open Go.RowKit

theorem sum_next (R n j : Nat) (h : j < n) : R - R % 2 ^ (n - (j + 1)) = R - R % 2 ^ (n - j) + if bitB R (n - 1 - j) then 2 ^ (n - 1 - j) else 0 := by
  have e : n - j = (n - 1 - j) + 1 := by omega
  have e2 : n - (j + 1) = n - 1 - j := by omega
  rw [e, e2]
  have hm : R % 2 ^ (n - 1 - j + 1) = R % 2 ^ (n - 1 - j) + if bitB R (n - 1 - j) then 2 ^ (n - 1 - j) else 0 := by
    rw [Nat.pow_succ, Nat.mod_mul]
    unfold bitB
    have : R / 2 ^ (n - 1 - j) % 2 = 0 ∨ R / 2 ^ (n - 1 - j) % 2 = 1 := by omega
    rcases this with h | h <;> simp [h]
  have hle := Nat.mod_le R (2 ^ (n - 1 - j + 1))
  rw [hm] at hle ⊢
  omega
set_option maxHeartbeats 1600000 in
theorem ref_Rest (g d : Nat) (A : Option Addr) (n c : Nat) (l : List Bool) (w : World) (h : Reads w w.heap.size A n (vb l)) (hn : n ≤ 1000) (hg : g < 131072) (h1 : 2 ^ d ≤ g) (h2 : g < 2 ^ (d + 1)) (hd : d ≤ 16) (hd1 : 1 ≤ d) :
    Calls Try.prog 70 #[.int .u32 (g : Int), .slice A n c] w (RetB w (.int .u32 (restF g d l n : Int))) := by
  have H := Lib.hid h.bool_len
  have cd := fun w => ref_Degree g d w (by omega) h1 h2 hd
  have HSK := Lib.hid (fun i (hh : divA g d l i i = false) p => divA_skip hd1 h1 h2 i hh p)
  have HST := Lib.hid (fun i (hh : divA g d l i i = true) p => divA_step hd1 h1 h2 i hh p)
  have HEN := Lib.hid (fun i (hi : i + d = n ∨ i = 0 ∧ n < d) p (hp : p < n) => divA_end h1 h2 n i H.out hi p hp)
  have HRN := Lib.hid (restF_ltn (l := l) h1 h2 n)
  have HRD := Lib.hid (restF_lt (l := l) h1 h2 n)
  clear h1 h2
  have ho0 : Own (w.alloc (.cells #[] 4)) w.heap.size 4 (.slice (some ⟨w.heap.size, 0, none⟩) 0 0) [] := Own.built w #[] 0 rfl (by unfold maxLen; omega) (Nat.le_refl _)
  have hr0 : Reads (w.alloc (.cells #[] 4)) w.heap.size A n (vb l) := h.alloc (Nat.le_refl _) _
  have hb0 : Below w.heap.size w (w.alloc (.cells #[] 4)) := (Below.refl _ _).alloc (Nat.le_refl _) _
  have h11 : ∀ u ∈ vb l, u.oneCell' = true := by
    intro u hu
    obtain ⟨b, _, rfl⟩ := List.mem_map.1 hu
    rfl
  go_enter Try.func70, Try.ntmps70
  go_wp2_with (first | (at_builtin; refine appN el_clone_bools rfl _ _ rfl rfl ho0 rfl hr0 h11 (by simp; unfold maxLen; omega) (by simp; omega) hb0.size ?_; intro v1 w1 ho1 hb1 _ _; obtain ⟨A1, c1, e1⟩ := ho1.form; have hl1 : ([] ++ vb l : List Value).length = n := (by simpa using H.out); rw [hl1] at e1; subst e1; clear hl1) | (go_at_call 78; refine (cd _).mono ?_; rintro e w' ⟨rfl, rfl⟩))
  have hbw : Below w.heap.size w w1 := hb0.trans hb1
  have ho2 : Own w1 w.heap.size 4 (.slice A1 n c1) (vb ((List.range n).map (divA g d l 0))) := by
    have e : (List.range n).map (divA g d l 0) = l := by
      rw [show divA g d l 0 = fun p => l.getD p false from funext divA_zero]; exact map_range_list H.out
    rw [e]; simpa using ho1
  clear ho1 hb1 ho0 hr0 hb0
  go_loopw [7, 8] (fun iv kv wr => ∃ i : Nat, iv = .int .i64 i ∧ (i + d ≤ n ∨ i = 0 ∧ n < d) ∧ Own wr w.heap.size 4 (.slice A1 n c1) (vb ((List.range n).map (divA g d l i))) ∧ Below w.heap.size w wr) (fun iv _ _ => n - (intOf iv).toNat)
  case atStart => exact ⟨0, rfl, by omega, ho2, hbw⟩
  case round =>
    obtain ⟨i, rfl, hi, hown, hb⟩ := hrel
    have hi1000 : i ≤ 1000 := by omega
    by_cases hlt : i + d < n
    · have hdec : decide ((i : Int) + (d : Int) < (n : Int)) = true := decide_eq_true (by omega)
      have hcell := hown.reads.bool_at (k := i) (by omega)
      obtain ⟨ad, y, e, hbb, hy, hcy⟩ := hcell
      subst e
      rw [map_range_at _ (show i < n by omega)] at hy
      injection hy with hy
      cases y
      · have HS : Hid ((List.range n).map (divA g d l (i + 1)) = (List.range n).map (divA g d l i)) := List.map_congr_left fun p _ => HSK.out i hy p
        clear hy
        go_wp2
        go_roundw
        case rel => exact ⟨i + 1, by go_num, by omega, by rw [HS.out]; exact hown, hb⟩
        case measure => simp only [intOf]; omega
      · have HS : Hid ((List.range n).map (divA g d l (i + 1)) = (List.range n).map (divB g d l i (d + 1))) := List.map_congr_left fun p _ => HST.out i hy p
        have hown0 : Own wr w.heap.size 4 (.slice (some ad) n c1) (vb ((List.range n).map (divB g d l i 0))) := by
          rw [show divB g d l i 0 = divA g d l i from funext (divB_zero i)]; exact hown
        clear hy
        go_wp2
        go_loopw [8] (fun kv wi => ∃ k : Nat, k ≤ d + 1 ∧ kv = .int .i64 k ∧ Own wi w.heap.size 4 (.slice (some ad) n c1) (vb ((List.range n).map (divB g d l i k))) ∧ Below w.heap.size w wi) (fun kv _ => d + 1 - (intOf kv).toNat)
        case atStart => exact ⟨0, by omega, rfl, hown0, hb⟩
        case round =>
          obtain ⟨k, hk, rfl, hown2, hb2⟩ := hrel
          by_cases hlk : k ≤ d
          · obtain ⟨p, hp⟩ : ∃ p, p = i + k := ⟨_, rfl⟩
            obtain ⟨q, hq⟩ : ∃ q, q = d - k := ⟨_, rfl⟩
            have ep : (i : Int) + (k : Int) = (p : Int) := by omega
            have eq : (d : Int) - (k : Int) = (q : Int) := by omega
            have hpn : p < n := by omega
            have hqd : q ≤ d := by omega
            have cb := fun w => ref_Bit g q w (by omega) (by omega)
            obtain ⟨n1, n2⟩ := divB_next (g := g) (d := d) (l := l) i k p hp
            rw [← hq] at n1
            have hx := hown2.cell (j := p) (u := .bool (divB g d l i k p)) (by rw [List.getElem?_map, map_range_at _ hpn]; rfl)
            have hfz := hown2.frozenAt p
            have hset := hown2.set p (.bool (divB g d l i (k + 1) p))
            rw [vb_set, map_range_set n2] at hset
            have hbs := hb2.trans (hown2.setBelow (Nat.le_refl _) p (.bool (divB g d l i (k + 1) p)))
            have hsame : Hid (divB g d l i (k + 1) p = divB g d l i k p → (List.range n).map (divB g d l i (k + 1)) = (List.range n).map (divB g d l i k)) := fun hs => by
              apply List.map_congr_left
              intro j _
              by_cases e : j = p
              · rw [e]; exact hs
              · exact n2 j e
            have i1 : (0 : Int) ≤ (p : Int) := Int.natCast_nonneg p
            have i2 : (p : Int) < (n : Int) := Int.ofNat_lt.2 hpn
            clear hp hq n2
            cases hgb : bitB g q
            · rw [hgb] at n1 cb
              have HSM : Hid ((List.range n).map (divB g d l i (k + 1)) = (List.range n).map (divB g d l i k)) := hsame.out (by rw [n1]; simp)
              clear hgb n1 hset hbs hsame hfz hx
              go_wp2_with (go_at_call 42; refine (cb _).mono ?_; rintro e w' ⟨rfl, rfl⟩)
              go_roundw
              case rel => exact ⟨k + 1, by omega, by go_num, by rw [HSM.out]; exact hown2, hb2⟩
              case measure => simp only [intOf]; omega
            · rw [hgb] at n1 cb
              have n3 : divB g d l i (k + 1) p = !divB g d l i k p := by rw [n1]; simp
              rw [n3] at hset hbs
              have HSET := Lib.hid hset
              clear hgb n1 hsame n3 hset
              generalize divB g d l i k p = bb at *
              go_wp2_with (go_at_call 42; refine (cb _).mono ?_; rintro e w' ⟨rfl, rfl⟩)
              go_roundw
              case rel => exact ⟨k + 1, by omega, by go_num, HSET.out, hbs⟩
              case measure => simp only [intOf]; omega
          · obtain rfl : k = d + 1 := by omega
            go_wp2
            go_roundw
            case rel => exact ⟨i + 1, by go_num, by omega, by rw [HS.out]; exact hown2, hb2⟩
            case measure => simp only [intOf]; omega
    · have hi2 : i + d = n ∨ i = 0 ∧ n < d := by omega
      have HF : Hid ((List.range n).map (divA g d l i) = (List.range n).map fun p => bitB (restF g d l n) (n - 1 - p)) := List.map_congr_left fun p hp => HEN.out i hi2 p (List.mem_range.1 hp)
      rw [HF.out] at hown
      have hrn := HRN.out
      have hrd := HRD.out
      have hp16 : 2 ^ d ≤ 2 ^ 16 := Nat.pow_le_pow_right (by omega) hd
      have hR : restF g d l n < 65536 := by omega
      have H0 : Hid (restF g d l n - restF g d l n % 2 ^ (n - 0) = 0) := by unfold Hid; rw [Nat.sub_zero, Nat.mod_eq_of_lt hrn]; omega
      have hbit : Hid (∀ q, bitB (restF g d l n) q = true → q < d) := fun q hq => by
        rcases Nat.lt_or_ge q d with h5 | h5
        · exact h5
        · rw [bitB_high hrd h5] at hq; cases hq
      have HSN := Lib.hid (fun j (hj : j < n) => sum_next (restF g d l n) n j hj)
      clear hrn hrd hp16 HF HEN HST HSK HRN HRD
      generalize restF g d l n = R at *
      have hrd2 := hown.reads
      go_wp2
      go_loop [9, 10] (fun sv jv => ∃ j : Nat, j ≤ n ∧ jv = .int .i64 j ∧ sv = .int .u32 ((R - R % 2 ^ (n - j) : Nat) : Int)) (fun _ jv => n - (intOf jv).toNat)
      case atStart => exact ⟨0, by omega, rfl, by rw [H0.out]; rfl⟩
      case round =>
        obtain ⟨j, hj, rfl, rfl⟩ := hrel
        by_cases hjn : j < n
        · obtain ⟨ad, y, e, hbb, hy, hcy⟩ := hrd2.bool_at hjn
          subst e
          rw [map_range_at _ hjn] at hy
          injection hy with hy
          have hs := HSN.out j hjn
          have hsle : R - R % 2 ^ (n - j) ≤ R := Nat.sub_le _ _
          obtain ⟨q, hq⟩ : ∃ q, q = n - 1 - j := ⟨_, rfl⟩
          have eq : (n : Int) - 1 - (j : Int) = (q : Int) := by omega
          rw [← hq] at hy hs
          rw [hy] at hs
          have HS := Lib.hid hs
          clear hs hq
          generalize R - R % 2 ^ (n - j) = s at *
          cases y
          · clear hy
            go_wp2
            go_round
            case rel => exact ⟨j + 1, by omega, by go_num, by rw [HS.out]; simp⟩
            case measure => simp [intOf]; omega
          · have hq16 := hbit.out q hy
            have es := mod_u32 (2 ^ q) (by have : 2 ^ q < 2 ^ 16 := Nat.pow_lt_pow_right (by omega) (by omega)
                                           omega)
            have es2 : (2 : Int) ^ q % 4294967296 = ((2 ^ q : Nat) : Int) := by
              have e : ((2 : Int) ^ q) = ((2 ^ q : Nat) : Int) := by rw [Int.natCast_pow]; rfl
              rw [e]; exact es
            have hq2 : 2 ^ q < 2 ^ 16 := Nat.pow_lt_pow_right (by omega) (by omega)
            have hq64 : q < 64 := by omega
            clear hy es
            generalize 2 ^ q = t at *
            go_wp2
            go_round
            case rel => exact ⟨j + 1, by omega, by go_num, by rw [HS.out]; go_num⟩
            case measure => simp [intOf]; omega
        · obtain rfl : j = n := by omega
          have HE : Hid (R - R % 2 ^ (j - j) = R) := by unfold Hid; rw [Nat.sub_self, Nat.pow_zero, Nat.mod_one, Nat.sub_zero]
          rw [HE.out]
          go_wp2
          go_ret
          exact ⟨rfl, hb⟩

/-! ### the statement on Rest -/
theorem restErr_ok {g n : Nat} (h : restErr g n = 0) : n ≤ 64 ∧ g < 131072 ∧ ∃ d, 1 ≤ d ∧ d ≤ 16 ∧ 2 ^ d ≤ g ∧ g < 2 ^ (d + 1) := by
  unfold restErr at h
  split at h
  · omega
  · rename_i hb
    split at h
    · omega
    · obtain ⟨h1, _, h3⟩ := badG_deg (by simpa using hb)
      exact ⟨by omega, h1, h3⟩
end Go.Proofs.Ythbmnaonnebnhaa

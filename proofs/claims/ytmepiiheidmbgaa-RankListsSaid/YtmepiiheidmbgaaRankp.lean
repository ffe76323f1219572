import Derived.Test.YtmepiiheidmbgaaRanko
import Derived.Laws.BitsAllLaws
set_option linter.unusedVariables false
namespace Go.Proofs.Ytmepiiheidmbgaa
open Go.RowKit

theorem bit_shrR (x i : Nat) (hx : x < 4294967296) : (bits .and .u32 ((x : Int) / 2 ^ i) 1 == 1) = bitB x i := by
  have e : ((x : Int) / 2 ^ i) = ((x / 2 ^ i : Nat) : Int) := by rw [Int.natCast_ediv, Int.natCast_pow]; rfl
  have hle : x / 2 ^ i ≤ x := Nat.div_le_self _ _
  rw [e, show (1 : Int) = ((1 : Nat) : Int) from rfl, u32_and_nat (x / 2 ^ i) 1 (by omega) (by omega), Nat.and_one_is_mod, bitB]
  by_cases h : x / 2 ^ i % 2 = 1
  · simp [h]
  · have h0 : x / 2 ^ i % 2 = 0 := by omega
    rw [h0]; rfl
/-! ### what has been seen, as bits -/
theorem seen_all : ∀ s : Fin 256, ∀ x : Fin 8, (bitB s.val x.val == true) = true ∨ ((decide ((s.val ||| 2 ^ x.val) < 256)) = true ∧ ∀ y : Fin 8, (bitB (s.val ||| 2 ^ x.val) y.val == (bitB s.val y.val || decide (y = x)) && Lib.popAux 8 ((s.val ||| 2 ^ x.val) % 2 ^ y.val) == Lib.popAux 8 (s.val % 2 ^ y.val) + if x.val < y.val then 1 else 0) = true) := by decide +kernel
structure Seen (pre : List Nat) (s : Nat) : Prop where
  lt : s < 256
  bit : ∀ y, y < 8 → bitB s y = decide (y ∈ pre)
  cnt : ∀ y, y < 8 → Lib.popAux 8 (s % 2 ^ y) = (pre.filter fun x => decide (x < y)).length
theorem Seen.start : Seen [] 0 := ⟨by omega, fun y _ => by simp [bitB], fun y _ => by simp [Lib.popAux]⟩
theorem Seen.next {pre : List Nat} {s x : Nat} (h : Seen pre s) (hx : x < 8) (hn : x ∉ pre) : Seen (pre ++ [x]) (s ||| 2 ^ x) := by
  have hs := seen_all ⟨s, h.lt⟩ ⟨x, hx⟩
  dsimp only at hs
  rcases hs with hs | ⟨h1, h2⟩
  · rw [h.bit x hx] at hs; simp [hn] at hs
  · refine ⟨of_decide_eq_true h1, fun y hy => ?_, fun y hy => ?_⟩
    · have := h2 ⟨y, hy⟩
      simp only [Bool.and_eq_true, beq_iff_eq] at this
      rw [this.1, h.bit y hy, Bool.eq_iff_iff]
      simp [Fin.ext_iff]
    · have := h2 ⟨y, hy⟩
      simp only [Bool.and_eq_true, beq_iff_eq] at this
      rw [this.2, h.cnt y hy, List.filter_append, List.length_append]
      congr 1
      by_cases c : x < y <;> simp [c]
theorem pop_small {x : Nat} (h : x < 256) : pop x = Lib.popAux 8 x := by
  have e := popAux_add 8 24 x
  rw [Nat.div_eq_of_lt (show x < 2 ^ 8 from h)] at e
  have : Lib.popAux 24 0 = 0 := by decide
  rw [this] at e
  exact e
def leftN (n : Nat) (pre : List Nat) : List Nat := (List.range n).filter fun y => decide (y ∉ pre)
theorem leftN_erase (n : Nat) (pre : List Nat) (x : Nat) : (leftN n pre).erase x = leftN n (pre ++ [x]) := by
  unfold leftN
  have hnd : ((List.range n).filter fun y => decide (y ∉ pre)).Nodup := List.Pairwise.filter _ List.nodup_range
  rw [hnd.erase_eq_filter, List.filter_filter]
  apply List.filter_congr
  intro y _
  rw [Bool.eq_iff_iff]; simp; exact And.comm
theorem leftN_idx {n x : Nat} {pre : List Nat} (hx : x < n) (hn : x ∉ pre) (hnd : pre.Nodup) : (leftN n pre).idxOf x + (pre.filter fun y => decide (y < x)).length = x := by
  unfold leftN
  rw [idx_left n pre x hx hn]
  exact len_left x pre hnd
/-- where the rank comes from, step by step -/
theorem rk_next {n x : Nat} {pre t : List Nat} : rkL (leftN n pre) (x :: t) = (leftN n pre).idxOf x * fct t.length + rkL (leftN n (pre ++ [x])) t := by rw [rkL, leftN_erase]
theorem leftN_nil (n : Nat) : leftN n [] = List.range n := by unfold leftN; simp
def natsR (l : List Int) : List Nat := l.map Int.toNat
theorem natsR_len (l : List Int) : (natsR l).length = l.length := by simp [natsR]
theorem natsR_drop {l : List Int} {k m : Nat} (hx : l[k]? = some (m : Int)) : (natsR l).drop k = m :: (natsR l).drop (k + 1) := by
  refine drop_next ?_
  unfold natsR; rw [List.getElem?_map, hx]; rfl
theorem natsR_take {l : List Int} {k m : Nat} (hx : l[k]? = some (m : Int)) : (natsR l).take (k + 1) = (natsR l).take k ++ [m] := by
  refine take_next ?_
  unfold natsR; rw [List.getElem?_map, hx]; rfl
theorem natsR_mem {l : List Int} {k m : Nat} (h : ∀ x ∈ l.take k, 0 ≤ x) : m ∈ (natsR l).take k ↔ (m : Int) ∈ l.take k := by
  unfold natsR
  rw [← List.map_take]
  constructor
  · intro hm
    obtain ⟨z, hz, rfl⟩ := List.mem_map.1 hm
    have := h z hz
    rwa [Int.toNat_of_nonneg this]
  · intro hm
    exact List.mem_map.2 ⟨_, hm, by simp⟩
theorem natsR_nodup {l : List Int} {k : Nat} (h : ∀ x ∈ l.take k, 0 ≤ x) (hn : (l.take k).Nodup) : ((natsR l).take k).Nodup := by
  unfold natsR
  rw [← List.map_take]
  rw [List.nodup_iff_pairwise_ne, List.pairwise_map]
  rw [List.nodup_iff_pairwise_ne] at hn
  refine List.Pairwise.imp_of_mem ?_ hn
  intro a b ha hb hab e
  have := h a ha
  have := h b hb
  omega
set_option maxRecDepth 100000 in
set_option maxHeartbeats 1600000 in
theorem rank_Order (A : Option Addr) (n c : Nat) (l : List Int) (b : Bool) (R : Nat) (w : World) (h : Reads w w.heap.size A n (vi .i64 l)) (hn : n ≤ 8) (hb : Hid (onceB l n = b)) (hR : Hid (rkL (List.range n) (natsR l) = R)) (r1 r2 : Int) (hr1 : Hid (r1 = if b then (R : Int) else 0)) (hr2 : Hid (r2 = if b then 0 else 3)) :
    Calls Try.prog 34 #[.slice A n c] w (RetQ w (.tuple #[.int .i64 r1, .int .i64 r2])) := by
  have H := Lib.hid h.int_len
  have cL := fun (m : Nat) (W : World) (hm : m ≤ 8) => rank_lists m W hm
  go_enter Try.func34, Try.ntmps34
  go_wp2
  go_loopw [5, 6, 16] (fun sv mv iv wr => ∃ k s m t : Nat, k ≤ n ∧ iv = .int .i64 k ∧ sv = .int .u32 (s : Int) ∧ mv = .int .i64 (m : Int) ∧ s < 256 ∧ m ≤ k * 400000 ∧ wr = w.drewN t ∧ Hid (OnceK l n k ∧ Seen ((natsR l).take k) s ∧ m + rkL (leftN n ((natsR l).take k)) ((natsR l).drop k) = R)) (fun _ _ iv _ => n - (intOf iv).toNat)
  case atStart => exact ⟨0, 0, 0, 0, by omega, rfl, rfl, rfl, by omega, by omega, rfl, OnceK.start l n, by rw [List.take_zero]; exact Seen.start, by rw [List.take_zero, leftN_nil, List.drop_zero, Nat.zero_add]; exact hR.out⟩
  case round =>
    obtain ⟨k, s, m, t, hk, rfl, rfl, rfl, hs256, hmk, rfl, hst⟩ := hrel
    by_cases hlt : k < n
    · obtain ⟨ad, x, rfl, hab, hx, hc0⟩ := h.int_at hlt
      have HX := Lib.hid hx
      clear hx
      by_cases h0 : x < 0
      · have HB : Hid (b = false) := by unfold Hid; rw [← hb.out]; exact once_bad HX.out (.inl h0)
        go_wp2
        go_ret2
        exact ⟨by rw [hr1.out, hr2.out, HB.out]; rfl, t, rfl⟩
      · by_cases h1 : (n : Int) ≤ x
        · have HB : Hid (b = false) := by unfold Hid; rw [← hb.out]; exact once_bad HX.out (.inr h1)
          go_wp2
          go_ret2
          exact ⟨by rw [hr1.out, hr2.out, HB.out]; rfl, t, rfl⟩
        · obtain ⟨q, rfl⟩ : ∃ q : Nat, x = (q : Int) := ⟨x.toNat, by omega⟩
          have hq8 : q < 8 := by omega
          have hqn : q < n := by omega
          have hbit := bit_shrR s q (by omega)
          rw [hst.out.2.1.bit q hq8] at hbit
          have hmem := natsR_mem (l := l) (k := k) (m := q) (fun x hx => (hst.out.1.rng x hx).1)
          have e0 : (0 : Int) ≤ (q : Int) := by omega
          by_cases hin : q ∈ (natsR l).take k
          · have HB : Hid (b = false) := by
              unfold Hid; rw [← hb.out]
              obtain ⟨j, hj⟩ := List.mem_iff_getElem?.1 (hmem.1 hin)
              have hjk : j < k := by have := (List.getElem?_eq_some_iff.1 hj).1; rw [List.length_take] at this; omega
              rw [List.getElem?_take_of_lt hjk] at hj
              exact once_dup HX.out hj hjk
            rw [decide_eq_true hin] at hbit
            clear hmem hin
            go_wp2
            go_ret2
            exact ⟨by rw [hr1.out, hr2.out, HB.out]; rfl, t, rfl⟩
          · rw [decide_eq_false hin] at hbit
            have hno : (q : Int) ∉ l.take k := fun h2 => hin (hmem.2 h2)
            have HO : Hid (OnceK l n (k + 1)) := hst.out.1.next HX.out e0 (by omega) hno
            have HS : Hid (Seen ((natsR l).take (k + 1)) (s ||| 2 ^ q)) := by unfold Hid; rw [natsR_take HX.out]; exact hst.out.2.1.next hq8 hin
            have hnd := natsR_nodup (fun x hx => (hst.out.1.rng x hx).1) hst.out.1.nd
            have hidx := leftN_idx hqn hin hnd
            have hcnt := hst.out.2.1.cnt q hq8
            have hrk := hst.out.2.2
            rw [natsR_drop HX.out, rk_next, ← natsR_take HX.out] at hrk
            have hdl : ((natsR l).drop (k + 1)).length = n - 1 - k := by rw [List.length_drop, natsR_len, H.out]; omega
            rw [hdl] at hrk
            obtain ⟨P, hP⟩ : ∃ P, 2 ^ q = P := ⟨_, rfl⟩
            have hP1 : 1 ≤ P := by rw [← hP]; exact Nat.pow_pos (by omega)
            have hP2 : P ≤ 128 := by rw [← hP]; exact Nat.pow_le_pow_right (n := 2) (by omega) (show q ≤ 7 by omega)
            have hPi : (2 : Int) ^ q = (P : Int) := by rw [← hP]; exact (Int.natCast_pow 2 q).symm
            have hPm : (P : Int) % 4294967296 = (P : Int) := by omega
            rw [hPi] at hbit
            obtain ⟨Q, hQ⟩ : ∃ Q, Q + 1 = P := ⟨P - 1, by omega⟩
            have hQi : (P : Int) - 1 = (Q : Int) := by omega
            have hQm : (Q : Int) % 4294967296 = (Q : Int) := by omega
            obtain ⟨z, hz⟩ : ∃ z, s % 2 ^ q = z := ⟨_, rfl⟩
            have hzl : z < 256 := by rw [← hz]; exact Nat.lt_of_le_of_lt (Nat.mod_le _ _) hs256
            have hand : bits .and .u32 (s : Int) (Q : Int) = (z : Int) := by
              rw [u32_and_nat s Q (by omega) (by omega), ← hz, show Q = 2 ^ q - 1 by omega, Nat.and_two_pow_sub_one_eq_mod]
            have hor : bits .or .u32 (s : Int) (P : Int) = ((s ||| P : Nat) : Int) := u32_or_nat s P (by omega) (by omega)
            rw [hz] at hcnt
            have co := fun W => ones_count z W (by omega)
            rw [pop_small hzl, hcnt] at co
            rw [hP] at HS
            obtain ⟨d, hd⟩ : ∃ d, (leftN n ((natsR l).take k)).idxOf q = d := ⟨_, rfl⟩
            obtain ⟨u, hu⟩ : ∃ u, (((natsR l).take k).filter fun y => decide (y < q)).length = u := ⟨_, rfl⟩
            rw [hd, hu] at hidx
            rw [hu] at co
            rw [hd] at hrk
            have hdi : (q : Int) - (u : Int) = (d : Int) := by omega
            obtain ⟨f, hf⟩ : ∃ f, n - 1 - k = f := ⟨_, rfl⟩
            rw [hf] at hrk
            have hfi : (n : Int) - 1 - (k : Int) = (f : Int) := by omega
            have cL := cL f
            have hff := fct_le (n := f) (by omega)
            obtain ⟨F, hF⟩ : ∃ F, fct f = F := ⟨_, rfl⟩
            rw [hF] at hrk cL hff
            obtain ⟨G, hG⟩ : ∃ G, d * F = G := ⟨_, rfl⟩
            rw [hG] at hrk
            have hGi : (d : Int) * (F : Int) = (G : Int) := by rw [← hG]; exact (Int.natCast_mul d F).symm
            have hGb : G ≤ 8 * 40320 := by rw [← hG]; exact Nat.mul_le_mul (by omega) hff
            have HRK : Hid (m + G + rkL (leftN n ((natsR l).take (k + 1))) ((natsR l).drop (k + 1)) = R) := by unfold Hid; rw [Nat.add_assoc]; exact hrk
            have hs2 : s ||| P < 256 := HS.out.lt
            clear hst hmem hin hno hnd hcnt hrk hdl hP hQ hz hd hu hf hF hG hidx
            go_wp2_with (first
              | (go_at_call 64; refine (co _).mono ?_; clear co; rintro e w' ⟨rfl, t2, rfl⟩)
              | (go_at_call 65; refine (cL _ (by omega)).mono ?_; clear cL; rintro e w' ⟨rfl, rfl⟩))
            go_roundw
            case rel => exact ⟨k + 1, s ||| P, m + G, t + t2, by omega, by go_num, rfl, by go_num, hs2, by omega, by first | rfl | rw [World.drewN_drewN], HO.out, HS.out, HRK.out⟩
            case measure => simp [intOf]; omega
    · obtain rfl : k = n := by omega
      have HB : Hid (b = true) := by unfold Hid; rw [← hb.out]; exact OnceK.full (by rw [H.out]; exact hst.out.1)
      have HM : Hid (m = R) := by
        have := hst.out.2.2
        rw [List.drop_of_length_le (by rw [natsR_len, H.out]; omega)] at this
        unfold Hid
        simpa [rkL] using this
      clear hst
      go_wp2
      go_ret2
      exact ⟨by rw [hr1.out, hr2.out, HB.out, HM.out]; rfl, t, rfl⟩
end Go.Proofs.Ytmepiiheidmbgaa

/-
  points.through: each place's own, summed up.
-/
import Derived.Test.YtpbffbhebdcpbaaPolyt
import Derived.Test.YtpbffbhebdcpbaaPointp
import Derived.Test.YtpbffbhebdcpbaaStore
import Derived.Test.YtpbffbhebdcpbaaRestd
import Derived.Test.YtpbffbhebdcpbaaField
import Derived.Deep.RegionLaw
import Derived.Deep.RegionWith
set_option linter.unusedVariables false
namespace Go.Proofs.Ytpbffbhebdcpbaa
open Go.RowKit

/-! ### a product with (x - c), and a sum, cell by cell -/
def pmF (own : List Nat) (c k q : Nat) : Nat := (if q < k then gm (own.getD q 0) c else 0) ^^^ (if 1 ≤ q ∧ q ≤ k then own.getD (q - 1) 0 else 0)
def pmG (own : List Nat) (c k q : Nat) : Nat := (if q < k + 1 then gm (own.getD q 0) c else 0) ^^^ (if 1 ≤ q ∧ q ≤ k then own.getD (q - 1) 0 else 0)
def pmL (own : List Nat) (c k m : Nat) : List Nat := (List.range m).map (pmF own c k)
theorem pmL_zero (own : List Nat) (c m : Nat) : pmL own c 0 m = List.replicate m 0 := by
  apply List.ext_getElem?
  intro q
  unfold pmL pmF
  rw [List.getElem?_map, List.getElem?_replicate]
  by_cases h : q < m
  · rw [List.getElem?_range h, if_pos h]
    simp only [Option.map_some, Option.some.injEq]
    rw [if_neg (by omega), if_neg (by omega)]; rfl
  · rw [List.getElem?_eq_none (by simpa using h), if_neg h]; rfl
theorem pmG_step (own : List Nat) (c k m : Nat) : (pmL own c k m).set k (pmG own c k k) = (List.range m).map (pmG own c k) := by
  refine map_range_set fun q hq => ?_
  unfold pmF pmG
  by_cases h : q < k
  · rw [if_pos h, if_pos (by omega)]
  · rw [if_neg h, if_neg (by omega)]
theorem pmF_step (own : List Nat) (c k m : Nat) : ((List.range m).map (pmG own c k)).set (k + 1) (pmF own c (k + 1) (k + 1)) = pmL own c (k + 1) m := by
  refine map_range_set fun q hq => ?_
  unfold pmF pmG
  congr 1
  by_cases h : 1 ≤ q ∧ q ≤ k
  · rw [if_pos h, if_pos (by omega)]
  · rw [if_neg h, if_neg (by omega)]
theorem mulP_at (own : List Nat) (c : Nat) (hc : c < 16) : ∀ q, q ≤ own.length → (mulP c own)[q]? = some (gm (own.getD q 0) c ^^^ if 1 ≤ q then own.getD (q - 1) 0 else 0) := by
  intro q hq
  unfold mulP addP
  rw [List.getElem?_zipWith]
  have h1 : (sclP c own ++ [0])[q]? = some (gm (own.getD q 0) c) := by
    rcases Nat.lt_or_ge q own.length with h | h
    · rw [List.getElem?_append_left (by simpa [sclP] using h)]
      simp [sclP, List.getD, h]
    · obtain rfl : q = own.length := by omega
      rw [List.getElem?_append_right (by simp [sclP])]
      simp [sclP, List.getD, zero_gm hc]
  have h2 : (0 :: own)[q]? = some (if 1 ≤ q then own.getD (q - 1) 0 else 0) := by
    cases q with
    | zero => rfl
    | succ q =>
      rw [List.getElem?_cons_succ, if_pos (by omega), List.getD_eq_getElem?_getD, show q + 1 - 1 = q by omega, List.getElem?_eq_getElem (by omega)]; rfl
  rw [h1, h2]
theorem pmL_full (own : List Nat) (c m : Nat) (hc : c < 16) (hm : own.length = m) : pmL own c m (m + 1) = mulP c own := by
  apply List.ext_getElem?
  intro q
  rcases Nat.lt_or_ge q (m + 1) with h | h
  · rw [mulP_at own c hc q (by omega)]
    unfold pmL pmF
    rw [List.getElem?_map, List.getElem?_range h]
    simp only [Option.map_some, Option.some.injEq]
    congr 1
    · by_cases h2 : q < m
      · rw [if_pos h2]
      · rw [if_neg h2]
        have : own.getD q 0 = 0 := by rw [List.getD_eq_getElem?_getD, List.getElem?_eq_none (by omega)]; rfl
        rw [this, zero_gm hc]
    · by_cases h2 : 1 ≤ q
      · rw [if_pos h2, if_pos ⟨h2, by omega⟩]
      · rw [if_neg h2, if_neg (by omega)]
  · rw [List.getElem?_eq_none (by simp [pmL]; omega), List.getElem?_eq_none (by rw [mulP_len]; omega)]
theorem getD_16 {l : List Nat} (hl : all16 l) (q : Nat) : l.getD q 0 < 16 := by
  rw [List.getD_eq_getElem?_getD]
  rcases h : l[q]? with _ | x
  · decide
  · exact hl x (mem_at h)
theorem pmF_16 {own : List Nat} {c : Nat} (ho : all16 own) (hc : c < 16) (k q : Nat) : pmF own c k q < 16 := by
  unfold pmF
  refine xor_lt16 ?_ ?_
  · split
    · exact gm_lt (getD_16 ho q) hc
    · decide
  · split
    · exact getD_16 ho _
    · decide
theorem pmG_16 {own : List Nat} {c : Nat} (ho : all16 own) (hc : c < 16) (k q : Nat) : pmG own c k q < 16 := by
  unfold pmG
  refine xor_lt16 ?_ ?_
  · split
    · exact gm_lt (getD_16 ho q) hc
    · decide
  · split
    · exact getD_16 ho _
    · decide
def smF (s0 own : List Nat) (sc k q : Nat) : Nat := s0.getD q 0 ^^^ (if q < k then gm (own.getD q 0) sc else 0)
theorem smF_zero (s0 own : List Nat) (sc : Nat) : (List.range s0.length).map (smF s0 own sc 0) = s0 := by
  apply List.ext_getElem?
  intro q
  rw [List.getElem?_map]
  rcases Nat.lt_or_ge q s0.length with h | h
  · rw [List.getElem?_range h, List.getElem?_eq_getElem h]; simp [smF, List.getD, h]
  · rw [List.getElem?_eq_none (by simpa using h), List.getElem?_eq_none h]; rfl
theorem smF_step (s0 own : List Nat) (sc k m : Nat) : ((List.range m).map (smF s0 own sc k)).set k (smF s0 own sc (k + 1) k) = (List.range m).map (smF s0 own sc (k + 1)) := by
  refine map_range_set fun q hq => ?_
  unfold smF
  congr 1
  by_cases h : q < k
  · rw [if_pos h, if_pos (by omega)]
  · rw [if_neg h, if_neg (by omega)]
theorem smF_full (s0 own : List Nat) (sc : Nat) (hl : s0.length = own.length) : (List.range s0.length).map (smF s0 own sc s0.length) = addP s0 (sclP sc own) := by
  apply List.ext_getElem?
  intro q
  rw [List.getElem?_map]
  unfold addP sclP
  rw [List.getElem?_zipWith, List.getElem?_map]
  rcases Nat.lt_or_ge q s0.length with h | h
  · rw [List.getElem?_range h, List.getElem?_eq_getElem h, List.getElem?_eq_getElem (by omega)]
    simp [smF, List.getD, h, show q < own.length by omega]
  · rw [List.getElem?_eq_none (by simpa using h), List.getElem?_eq_none h]; rfl
theorem smF_16 {s0 own : List Nat} {sc : Nat} (h0 : all16 s0) (ho : all16 own) (hs : sc < 16) (k q : Nat) : smF s0 own sc k q < 16 := by
  unfold smF
  refine xor_lt16 (getD_16 h0 q) ?_
  split
  · exact gm_lt (getD_16 ho q) hs
  · decide
theorem grown_setCellP (w : World) (p : Addr) (u : Value) : w.grownBy (w.setCell p u) (some p.block) := by
  have hb := (Below.refl 0 w).setCell (Nat.zero_le p.block) u
  exact ⟨hb.os, hb.tape, hb.output, hb.size, fun k hk hne => Below.heap_setCell w p u k (fun e => hne (by rw [e]))⟩
/-- the facts that a store into a row of naturals wants -/
theorem own_nat {w : World} {B n g c i : Nat} {E : TypeId} {L : List Nat} (ho : Own w B E (.slice (some ⟨g, 0, none⟩) n c) (vn .i64 L)) (hi : i < n) (a : Nat) :
    w.cell? ⟨g, i, none⟩ = some (.int .i64 (L.getD i 0 : Nat)) ∧ w.frozen? ⟨g, i, none⟩ = false ∧ Own (w.setCell ⟨g, i, none⟩ (.int .i64 (a : Int))) B E (.slice (some ⟨g, 0, none⟩) n c) (vn .i64 (L.set i a)) ∧ B ≤ g := by
  have hl := ho.reads.nat_len
  have hx : L[i]? = some L[i] := List.getElem?_eq_getElem (by omega)
  have h1 := ho.cell (j := i) (u := .int .i64 (L[i] : Int)) (by rw [List.getElem?_map, hx]; rfl)
  have h2 := ho.frozenAt i
  have h3 := ho.set i (.int .i64 (a : Int))
  rw [add_row] at h1 h2 h3
  rw [vn_set] at h3
  have hg : B ≤ g := by obtain ⟨g', e, h, _⟩ := ho.addr; injection e with e; subst e; exact h
  refine ⟨?_, h2, h3, hg⟩
  rw [h1, List.getD_eq_getElem?_getD, hx]; rfl
end Go.Proofs.Ytpbffbhebdcpbaa

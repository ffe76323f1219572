/-
  The polynomial through some points: each place's own summed up, and place by place one power more. Plain words.
-/
import Derived.Test.YtpbffbhebdcpbaaPoly
set_option linter.unusedVariables false
namespace Go.Proofs.Ytpbffbhebdcpbaa
open Go.RowKit

def ownStep (i : Nat) (own : List Nat) (j : Nat) : List Nat := if j = i then own else mulP (j + 1) own
def ownL (i : Nat) (ps : List Nat) : List Nat := ps.foldl (ownStep i) [1]
def sclStep (i s j : Nat) : Nat := if j = i then s else gm s (gp ((i + 1) ^^^ (j + 1)) 14)
def sclL (v i : Nat) (ps : List Nat) : Nat := ps.foldl (sclStep i) v
def lagStep (lv : Nat → Nat) (all : List Nat) (sum : List Nat) (i : Nat) : List Nat := addP sum (sclP (sclL (lv i) i all) (ownL i all))
def lagL (lv : Nat → Nat) (all ps : List Nat) : List Nat := ps.foldl (lagStep lv all) (List.replicate all.length 0)
theorem foldl_next {α β : Type} (f : β → α → β) (b : β) {l : List α} {k : Nat} {x : α} (h : l[k]? = some x) : (l.take (k + 1)).foldl f b = f ((l.take k).foldl f b) x := by
  rw [take_next h, List.foldl_append]; rfl
def okPs (ps : List Nat) : Prop := ∀ j ∈ ps, j < 9
theorem okPs_cons {j : Nat} {ps : List Nat} : okPs (j :: ps) ↔ j < 9 ∧ okPs ps := by
  constructor
  · intro h; exact ⟨h j (List.mem_cons_self ..), fun y hy => h y (List.mem_cons_of_mem _ hy)⟩
  · rintro ⟨h1, h2⟩ y hy
    rcases List.mem_cons.1 hy with rfl | hy
    · exact h1
    · exact h2 y hy
theorem own_16 (i : Nat) : ∀ (ps : List Nat) (own : List Nat), okPs ps → all16 own → all16 (ps.foldl (ownStep i) own)
  | [], _, _, h => h
  | j :: ps, own, hp, h => by
    have h1 := okPs_cons.1 hp
    refine own_16 i ps _ h1.2 ?_
    unfold ownStep
    split
    · exact h
    · exact mulP_16 (by omega) h
theorem one16 : all16 [1] := by intro y hy; rw [List.mem_singleton.1 hy]; omega
theorem own_len (i : Nat) : ∀ (ps : List Nat) (own : List Nat), (ps.foldl (ownStep i) own).length = own.length + (ps.filter (fun j => decide (j ≠ i))).length
  | [], _ => by simp
  | j :: ps, own => by
    rw [List.foldl_cons, own_len i ps]
    unfold ownStep
    by_cases h : j = i
    · rw [if_pos h, List.filter_cons, if_neg (by simp [h])]
    · rw [if_neg h, List.filter_cons, if_pos (by simp [h]), mulP_len, List.length_cons]; omega
theorem filter_out {i : Nat} : ∀ {ps : List Nat}, ps.Nodup → i ∈ ps → (ps.filter (fun j => decide (j ≠ i))).length + 1 = ps.length
  | [], _, h => by cases h
  | j :: ps, hn, h => by
    have hn2 := List.nodup_cons.1 hn
    rw [List.filter_cons]
    by_cases e : j = i
    · subst e
      rw [if_neg (by simp)]
      have : ps.filter (fun k => decide (k ≠ j)) = ps := by
        rw [List.filter_eq_self]; intro k hk; simp; intro e; subst e; exact hn2.1 hk
      rw [this, List.length_cons]
    · rw [if_pos (by simp [e])]
      have hm : i ∈ ps := by
        rcases List.mem_cons.1 h with h | h
        · exact absurd h.symm e
        · exact h
      have := filter_out hn2.2 hm
      simp only [List.length_cons]; omega
theorem ownL_len {i : Nat} {all : List Nat} (hn : all.Nodup) (hi : i ∈ all) : (ownL i all).length = all.length := by
  unfold ownL; rw [own_len]
  have := filter_out hn hi
  simp only [List.length_cons, List.length_nil]; omega
theorem ownL_le (i : Nat) (ps : List Nat) : (ownL i ps).length ≤ ps.length + 1 := by
  unfold ownL; rw [own_len]
  have := List.length_filter_le (fun j => decide (j ≠ i)) ps
  simp only [List.length_cons, List.length_nil]; omega
theorem pl_ne_fin : ∀ i j : Fin 9, i.val ≠ j.val → (i.val + 1) ^^^ (j.val + 1) ≠ 0 := by decide
theorem pl_ne {i j : Nat} (hi : i < 9) (hj : j < 9) (h : i ≠ j) : (i + 1) ^^^ (j + 1) ≠ 0 := pl_ne_fin ⟨i, hi⟩ ⟨j, hj⟩ h
theorem scl_lt (i : Nat) (hi : i < 9) : ∀ (ps : List Nat) (s : Nat), okPs ps → s < 16 → ps.foldl (sclStep i) s < 16
  | [], _, _, h => h
  | j :: ps, s, hp, h => by
    have h1 := okPs_cons.1 hp
    refine scl_lt i hi ps _ h1.2 ?_
    unfold sclStep
    split
    · exact h
    · exact gm_lt h (gp_lt (xor_lt16 (by omega) (by omega)) 14)
def valStep (x i v j : Nat) : Nat := if j = i then v else gm v (x ^^^ (j + 1))
theorem horn_own {x : Nat} (hx : x < 16) (i : Nat) : ∀ (ps : List Nat) (own : List Nat), okPs ps → all16 own → horn x (ps.foldl (ownStep i) own) = ps.foldl (valStep x i) (horn x own)
  | [], _, _, _ => rfl
  | j :: ps, own, hp, h => by
    have h1 := okPs_cons.1 hp
    rw [List.foldl_cons, List.foldl_cons]
    unfold ownStep valStep
    by_cases e : j = i
    · rw [if_pos e, if_pos e]; exact horn_own hx i ps own h1.2 h
    · rw [if_neg e, if_neg e]
      have := horn_own hx i ps (mulP (j + 1) own) h1.2 (mulP_16 (by omega) h)
      rw [horn_mulP hx (by omega) h] at this
      exact this
theorem val_zero {x : Nat} (hx : x < 16) (i : Nat) : ∀ (ps : List Nat), okPs ps → ps.foldl (valStep x i) 0 = 0
  | [], _ => rfl
  | j :: ps, hp => by
    have h1 := okPs_cons.1 hp
    rw [List.foldl_cons]
    have : valStep x i 0 j = 0 := by
      unfold valStep; split
      · rfl
      · exact zero_gm (xor_lt16 hx (by omega))
    rw [this]; exact val_zero hx i ps h1.2
theorem val_hit {i k : Nat} (hk : k < 9) (hne : k ≠ i) : ∀ (ps : List Nat) (v : Nat), okPs ps → v < 16 → k ∈ ps → ps.foldl (valStep (k + 1) i) v = 0
  | [], _, _, _, h => by cases h
  | j :: ps, v, hp, hv, h => by
    have h1 := okPs_cons.1 hp
    rw [List.foldl_cons]
    by_cases e : j = k
    · subst e
      have : valStep (j + 1) i v j = 0 := by unfold valStep; rw [if_neg hne, Nat.xor_self]; exact gm_zero hv
      rw [this]; exact val_zero (by omega) i ps h1.2
    · refine val_hit hk hne ps _ h1.2 ?_ ?_
      · unfold valStep; split
        · exact hv
        · exact gm_lt hv (xor_lt16 (by omega) (by omega))
      · rcases List.mem_cons.1 h with h | h
        · exact absurd h.symm e
        · exact h
theorem val_own {i v : Nat} (hi : i < 9) : ∀ (ps : List Nat) (p s : Nat), okPs ps → p < 16 → s < 16 → gm p s = v → gm (ps.foldl (valStep (i + 1) i) p) (ps.foldl (sclStep i) s) = v
  | [], _, _, _, _, _, h => h
  | j :: ps, p, s, hp, hp1, hs, h => by
    have h1 := okPs_cons.1 hp
    rw [List.foldl_cons, List.foldl_cons]
    unfold valStep sclStep
    by_cases e : j = i
    · rw [if_pos e, if_pos e]; exact val_own hi ps p s h1.2 hp1 hs h
    · rw [if_neg e, if_neg e]
      have hd := xor_lt16 (a := i + 1) (b := j + 1) (by omega) (by omega)
      have hg := gp_lt hd 14
      refine val_own hi ps _ _ h1.2 (gm_lt hp1 hd) (gm_lt hs hg) ?_
      rw [gm_assoc hp1 hd (gm_lt hs hg), gm_comm hs hg, ← gm_assoc hd hg hs, gm_inv hd (pl_ne hi h1.1 (fun e2 => e e2.symm)), one_gm hs]
      exact h
section
variable {lv : Nat → Nat} {all : List Nat}
theorem lag_term {i k : Nat} (hall : okPs all) (hlv : ∀ j ∈ all, lv j < 16) (hi : i ∈ all) (hk : k ∈ all) : gm (horn (k + 1) (ownL i all)) (sclL (lv i) i all) = if i = k then lv k else 0 := by
  have hk9 := hall k hk
  have hi9 := hall i hi
  have e1 := horn_own (x := k + 1) (by omega) i all [1] hall one16
  have e0 : horn (k + 1) [1] = 1 := by simp [horn, zero_gm (show k + 1 < 16 by omega)]
  unfold ownL
  rw [e1, e0]
  by_cases e : i = k
  · subst e
    rw [if_pos rfl]
    exact val_own hi9 all 1 (lv i) hall (by omega) (hlv i hi) (one_gm (hlv i hi))
  · rw [if_neg e, val_hit hk9 (fun e2 => e e2.symm) all 1 hall (by omega) hk]
    exact zero_gm (scl_lt i hi9 all _ hall (hlv i hi))
theorem lag_props (hall : okPs all) (hlv : ∀ j ∈ all, lv j < 16) (hnd : all.Nodup) : ∀ (ps : List Nat) (sum : List Nat), (∀ j ∈ ps, j ∈ all) → all16 sum → sum.length = all.length →
    all16 (ps.foldl (lagStep lv all) sum) ∧ (ps.foldl (lagStep lv all) sum).length = all.length ∧
    (ps.Nodup → ∀ k ∈ all, horn (k + 1) (ps.foldl (lagStep lv all) sum) = horn (k + 1) sum ^^^ if k ∈ ps then lv k else 0)
  | [], sum, _, h, hl => ⟨h, hl, fun _ k _ => by simp⟩
  | i :: ps, sum, hin, h, hl => by
    have hi := hin i (List.mem_cons_self ..)
    have hi9 := hall i hi
    have ho : all16 (ownL i all) := own_16 i all [1] hall one16
    have hs : sclL (lv i) i all < 16 := scl_lt i hi9 all _ hall (hlv i hi)
    have hol := ownL_len hnd hi
    have hsl : (sclP (sclL (lv i) i all) (ownL i all)).length = all.length := by simp [sclP, hol]
    have h16 : all16 (lagStep lv all sum i) := addP_16 h (sclP_16 hs ho)
    have hlen : (lagStep lv all sum i).length = all.length := by unfold lagStep; rw [addP_len, hsl, hl]; omega
    obtain ⟨a, b, c⟩ := lag_props hall hlv hnd ps (lagStep lv all sum i) (fun j hj => hin j (List.mem_cons_of_mem _ hj)) h16 hlen
    rw [List.foldl_cons]
    refine ⟨a, b, fun hn k hk => ?_⟩
    have hn2 := List.nodup_cons.1 hn
    have hk9 := hall k hk
    rw [c hn2.2 k hk]
    unfold lagStep
    rw [horn_add (by omega) h (sclP_16 hs ho) (by omega), horn_scl (by omega) hs ho, lag_term hall hlv hi hk, Nat.xor_assoc]
    congr 1
    by_cases e : i = k
    · subst e
      rw [if_pos rfl, if_neg hn2.1, if_pos (List.mem_cons_self ..), Nat.xor_zero]
    · rw [if_neg e, Nat.zero_xor]
      by_cases h2 : k ∈ ps
      · rw [if_pos h2, if_pos (List.mem_cons_of_mem _ h2)]
      · rw [if_neg h2, if_neg (fun h3 => by
          rcases List.mem_cons.1 h3 with h3 | h3
          · exact e h3.symm
          · exact h2 h3)]
theorem lag_eval (hall : okPs all) (hlv : ∀ j ∈ all, lv j < 16) (hnd : all.Nodup) : all16 (lagL lv all all) ∧ (lagL lv all all).length = all.length ∧ ∀ k ∈ all, horn (k + 1) (lagL lv all all) = lv k := by
  have hz : all16 (List.replicate all.length 0) := by intro y hy; rw [(List.mem_replicate.1 hy).2]; omega
  obtain ⟨a, b, c⟩ := lag_props hall hlv hnd all (List.replicate all.length 0) (fun j hj => hj) hz (by simp)
  refine ⟨a, b, fun k hk => ?_⟩
  have := c hnd k hk
  have hk9 := hall k hk
  rw [if_pos hk, horn_zeros (k + 1) (by omega), Nat.zero_xor] at this
  exact this
end
/-! ### place by place -/
def zeStep (z : List Nat) (j : Nat) : List Nat := mulP (j + 1) z
def zeP (ps : List Nat) : List Nat := ps.foldl zeStep [1]
theorem ze_16 : ∀ (ps : List Nat) (z : List Nat), okPs ps → all16 z → all16 (ps.foldl zeStep z)
  | [], _, _, h => h
  | j :: ps, z, hp, h => by
    have h1 := okPs_cons.1 hp
    exact ze_16 ps _ h1.2 (mulP_16 (by omega) h)
theorem ze_len : ∀ (ps : List Nat) (z : List Nat), (ps.foldl zeStep z).length = z.length + ps.length
  | [], _ => rfl
  | j :: ps, z => by rw [List.foldl_cons, ze_len ps]; unfold zeStep; rw [mulP_len, List.length_cons]; omega
theorem zeP_len (ps : List Nat) : (zeP ps).length = ps.length + 1 := by unfold zeP; rw [ze_len]; simp; omega
theorem zeP_16 {ps : List Nat} (hp : okPs ps) : all16 (zeP ps) := ze_16 ps [1] hp one16
def zvStep (x v j : Nat) : Nat := gm v (x ^^^ (j + 1))
theorem horn_ze {x : Nat} (hx : x < 16) : ∀ (ps : List Nat) (z : List Nat), okPs ps → all16 z → horn x (ps.foldl zeStep z) = ps.foldl (zvStep x) (horn x z)
  | [], _, _, _ => rfl
  | j :: ps, z, hp, h => by
    have h1 := okPs_cons.1 hp
    rw [List.foldl_cons, List.foldl_cons]
    have := horn_ze hx ps (mulP (j + 1) z) h1.2 (mulP_16 (by omega) h)
    rw [horn_mulP hx (by omega) h] at this
    exact this
theorem zv_zero {x : Nat} (hx : x < 16) : ∀ (ps : List Nat), okPs ps → ps.foldl (zvStep x) 0 = 0
  | [], _ => rfl
  | j :: ps, hp => by
    have h1 := okPs_cons.1 hp
    rw [List.foldl_cons]
    unfold zvStep
    rw [zero_gm (xor_lt16 hx (by omega))]
    exact zv_zero hx ps h1.2
theorem zv_hit {k : Nat} (hk : k < 9) : ∀ (ps : List Nat) (v : Nat), okPs ps → v < 16 → k ∈ ps → ps.foldl (zvStep (k + 1)) v = 0
  | [], _, _, _, h => by cases h
  | j :: ps, v, hp, hv, h => by
    have h1 := okPs_cons.1 hp
    rw [List.foldl_cons]
    by_cases e : j = k
    · subst e
      unfold zvStep
      rw [Nat.xor_self, gm_zero hv]
      exact zv_zero (by omega) ps h1.2
    · refine zv_hit hk ps _ h1.2 (gm_lt hv (xor_lt16 (by omega) (by omega))) ?_
      rcases List.mem_cons.1 h with h | h
      · exact absurd h.symm e
      · exact h
theorem zv_ne {k : Nat} (hk : k < 9) : ∀ (ps : List Nat) (v : Nat), okPs ps → v < 16 → v ≠ 0 → k ∉ ps → ps.foldl (zvStep (k + 1)) v ≠ 0
  | [], _, _, _, h, _ => h
  | j :: ps, v, hp, hv, h, hn => by
    have h1 := okPs_cons.1 hp
    rw [List.foldl_cons]
    have hd := xor_lt16 (a := k + 1) (b := j + 1) (by omega) (by omega)
    refine zv_ne hk ps _ h1.2 (gm_lt hv hd) ?_ (fun h2 => hn (List.mem_cons_of_mem _ h2))
    intro e
    rcases gm_eq0 hv hd e with e | e
    · exact h e
    · exact pl_ne hk h1.1 (fun e2 => hn (by rw [e2]; exact List.mem_cons_self ..)) e
def nwM (lv : Nat → Nat) (pre d : List Nat) (i : Nat) : Nat := gm (lv i ^^^ horn (i + 1) d) (gp (horn (i + 1) (zeP pre)) 14)
def nwS (lv : Nat → Nat) (pre d : List Nat) (i : Nat) : List Nat := addP (d ++ [0]) (sclP (nwM lv pre d i) (zeP pre))
def nwK (lv : Nat → Nat) (all : List Nat) : Nat → List Nat
  | 0 => []
  | k + 1 => nwS lv (all.take k) (nwK lv all k) (all.getD k 0)
theorem nw_props {lv : Nat → Nat} {all : List Nat} (hall : okPs all) (hlv : ∀ j ∈ all, lv j < 16) (hnd : all.Nodup) : ∀ k, k ≤ all.length →
    all16 (nwK lv all k) ∧ (nwK lv all k).length = k ∧ ∀ j ∈ all.take k, horn (j + 1) (nwK lv all k) = lv j
  | 0, _ => ⟨all16_nil, rfl, fun j hj => by simp at hj⟩
  | k + 1, hk => by
    obtain ⟨a, b, c⟩ := nw_props hall hlv hnd k (by omega)
    obtain ⟨i, hi⟩ : ∃ i, all[k]? = some i := ⟨all[k], List.getElem?_eq_getElem (by omega)⟩
    have him := mem_at hi
    have hi9 := hall i him
    have hpre : okPs (all.take k) := fun j hj => hall j (List.mem_of_mem_take hj)
    have hz16 := zeP_16 hpre
    have hzl := zeP_len (all.take k)
    have hnot : i ∉ all.take k := by
      have := hnd.sublist (List.take_sublist (k + 1) all)
      rw [take_next hi, List.nodup_append] at this
      intro h; exact this.2.2 i h i (by simp) rfl
    have hg : all.getD k 0 = i := by rw [List.getD_eq_getElem?_getD, hi]; rfl
    have hm : nwM lv (all.take k) (nwK lv all k) i < 16 := gm_lt (xor_lt16 (hlv i him) (horn_lt (by omega) a)) (gp_lt (horn_lt (by omega) hz16) 14)
    have hd0 : all16 (nwK lv all k ++ [0]) := by
      intro y hy
      rcases List.mem_append.1 hy with hy | hy
      · exact a y hy
      · rw [List.mem_singleton.1 hy]; omega
    have htl : (all.take k).length = k := by rw [List.length_take]; omega
    have hlen : (nwK lv all k ++ [0]).length = (sclP (nwM lv (all.take k) (nwK lv all k) i) (zeP (all.take k))).length := by simp [sclP, b, hzl, htl]
    rw [nwK, hg]
    refine ⟨addP_16 hd0 (sclP_16 hm hz16), ?_, fun j hj => ?_⟩
    · unfold nwS; rw [addP_len, ← hlen, List.length_append, b]; simp
    · rw [take_next hi] at hj
      have hj9 : j < 9 := by
        rcases List.mem_append.1 hj with hj | hj
        · exact hpre j hj
        · rw [List.mem_singleton.1 hj]; exact hi9
      unfold nwS
      rw [horn_add (by omega) hd0 (sclP_16 hm hz16) hlen, horn_snoc0 (by omega), horn_scl (by omega) hm hz16]
      have hze : horn (j + 1) (zeP (all.take k)) = (all.take k).foldl (zvStep (j + 1)) 1 := by
        unfold zeP; rw [horn_ze (by omega) _ _ hpre one16]
        simp [horn, zero_gm (show j + 1 < 16 by omega)]
      rcases List.mem_append.1 hj with hj | hj
      · rw [hze, zv_hit hj9 _ 1 hpre (by omega) hj, zero_gm hm, Nat.xor_zero]
        exact c j hj
      · have := List.mem_singleton.1 hj
        subst this
        have hne : horn (j + 1) (zeP (all.take k)) ≠ 0 := by rw [hze]; exact zv_ne hj9 _ 1 hpre (by omega) (by omega) hnot
        have hzlt := horn_lt (x := j + 1) (by omega) hz16
        have hhlt := horn_lt (x := j + 1) (by omega) a
        unfold nwM
        generalize horn (j + 1) (zeP (all.take k)) = z at *
        generalize horn (j + 1) (nwK lv all k) = h at *
        rw [gm_comm (xor_lt16 (hlv j him) hhlt) (gp_lt hzlt 14), ← gm_assoc hzlt (gp_lt hzlt 14) (xor_lt16 (hlv j him) hhlt), gm_inv hzlt hne, one_gm (xor_lt16 (hlv j him) hhlt), Nat.xor_comm (lv j), ← Nat.xor_assoc, Nat.xor_self, Nat.zero_xor]
/-- both tell the same where the one fits the other's places -/
theorem thr_same {lv : Nat → Nat} {P Q d e : List Nat} (hQ : okPs Q) (hnd : Q.Nodup) (hd : all16 d) (he : all16 e) (hdl : d.length = Q.length) (hel : e.length = Q.length) (h1 : ∀ j ∈ Q, horn (j + 1) d = lv j) (h2 : ∀ j ∈ Q, horn (j + 1) e = lv j) : d = e := by
  refine poly_uniq (rs := Q.map (· + 1)) hd he (by simpa using hdl) (by simpa using hel) ?_ ?_ ?_
  · intro y hy
    obtain ⟨j, hj, rfl⟩ := List.mem_map.1 hy
    have := hQ j hj
    omega
  · rw [List.Nodup, List.pairwise_map]
    exact hnd.imp fun h => by omega
  · intro r hr
    obtain ⟨j, hj, rfl⟩ := List.mem_map.1 hr
    rw [h1 j hj, h2 j hj]
end Go.Proofs.Ytpbffbhebdcpbaa

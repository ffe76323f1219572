/-
  TopReads: the plain law.
-/
import Derived.Test.YtbhhijdpmpcdnaaPax
set_option linter.unusedVariables false
namespace Go.Proofs.Ytbhhijdpmpcdnaa

abbrev ArB := List Nat × Int
theorem mvB_bl (d : Nat) (a : ArB) (kind block : Int) (v : Nat) (h : kind ≠ 1) : (mvB d a kind block v).a.1 = a.1 := by
  unfold mvB mvR
  repeat' split
  all_goals first
    | rfl
    | (exfalso; omega)
/-- what a step does to the first site's blocks while that is the main one -/
structure RdStep (d : Nat) (u u' : PrT ArB) (x : StS) (e v : Nat) : Prop where
  out : u'.outs = u.outs ++ [(e, v)]
  bad : e ≠ 0 → u'.a0.1 = u.a0.1 ∧ u'.main = 0
  sw : e = 0 → x.kind = 10 → u'.main = 1
  wr : e = 0 → x.kind = 1 → 0 ≤ x.block ∧ x.block < 24 ∧ u'.a0.1 = u.a0.1.set x.block.toNat x.val ∧ u'.main = 0
  rd : e = 0 → x.kind = 9 → 0 ≤ x.block ∧ x.block < 24 ∧ u'.a0.1 = u.a0.1 ∧ u'.main = 0 ∧ (x.site = 0 → v = u.a0.1.getD x.block.toNat 0)
  ot : e = 0 → x.kind ≠ 1 → x.kind ≠ 9 → x.kind ≠ 10 → u'.a0.1 = u.a0.1 ∧ u'.main = 0
theorem rd_step (mode d : Nat) (u : PrT ArB) (x : StS) (hm : u.main = 0) : ∃ e v, RdStep d u (stepG (mvB d) mode d u x) x e v := by
  by_cases k0 : x.kind < 1 ∨ 10 < x.kind
  · rw [show stepG (mvB d) mode d u x = { u with outs := u.outs ++ [(6, 0)] } by unfold stepG; rw [if_pos k0]]
    exact ⟨6, 0, rfl, fun _ => ⟨rfl, hm⟩, fun h => by omega, fun h => by omega, fun h => by omega, fun h => by omega⟩
  by_cases k1 : x.kind = 1
  · rw [show stepG (mvB d) mode d u x = wrG (mvB d) u x by unfold stepG; rw [if_neg k0, if_pos k1]]
    by_cases hb : x.block < 0 ∨ 24 ≤ x.block
    · rw [show wrG (mvB d) u x = { u with outs := u.outs ++ [(2, 0)] } by unfold wrG; rw [if_pos hb]]
      exact ⟨2, 0, rfl, fun _ => ⟨rfl, hm⟩, fun h => by omega, fun h => by omega, fun h => by omega, fun h => by omega⟩
    · rw [show wrG (mvB d) u x = { u with outs := u.outs ++ [(0, 0)], a0 := (mvB d u.a0 1 x.block x.val).a, ws := u.ws ++ [x] } by unfold wrG; rw [if_neg hb, if_pos hm]]
      refine ⟨0, 0, rfl, fun h => absurd rfl h, fun _ h => by omega, fun _ _ => ⟨by omega, by omega, ?_, hm⟩, fun _ h => by omega, fun _ h => absurd k1 h⟩
      show (mvB d u.a0 1 x.block x.val).a.1 = _
      unfold mvB mvR
      rw [if_neg (by omega), if_neg (by simp; omega), if_neg (by decide), if_neg (by decide), if_neg (by decide)]
  by_cases k10 : x.kind = 10
  · rw [show stepG (mvB d) mode d u x = chG (mvB d) mode u by unfold stepG; rw [if_neg k0, if_neg k1, if_pos k10]]
    rw [show chG (mvB d) mode u = { u with outs := u.outs ++ [(0, 0)], told := tellG mode u, a1 := putW (mvB d) u.a1 ((u.ws.take u.g).drop u.p), p := u.g, main := 1 } by unfold chG; rw [if_neg (by omega)]]
    exact ⟨0, 0, rfl, fun h => absurd rfl h, fun _ _ => rfl, fun _ h => absurd h k1, fun _ h => by omega, fun _ _ _ h => absurd k10 h⟩
  by_cases k7 : 7 ≤ x.kind
  · rw [show stepG (mvB d) mode d u x = atG (mvB d) d u x by unfold stepG; rw [if_neg k0, if_neg k1, if_neg k10, if_pos k7]]
    have hk : atK x.kind ≠ 1 := by unfold atK; repeat' split
                                   all_goals decide
    by_cases hb : x.site < u.main ∨ 1 < x.site ∨ x.block < 0 ∨ manyG d x.kind ≤ x.block
    · rw [show atG (mvB d) d u x = { u with outs := u.outs ++ [(2, 0)] } by unfold atG; rw [if_pos hb]]
      exact ⟨2, 0, rfl, fun _ => ⟨rfl, hm⟩, fun h => by omega, fun h => by omega, fun h => by omega, fun h => by omega⟩
    · by_cases hs : x.site = 0
      · rw [show atG (mvB d) d u x = { u with outs := u.outs ++ [((mvB d u.a0 (atK x.kind) x.block 0).e, (mvB d u.a0 (atK x.kind) x.block 0).v)], a0 := (mvB d u.a0 (atK x.kind) x.block 0).a } by unfold atG; rw [if_neg hb, if_pos hs]]
        have hbl := mvB_bl d u.a0 (atK x.kind) x.block 0 hk
        refine ⟨_, _, rfl, fun _ => ⟨hbl, hm⟩, fun _ h => absurd h k10, fun _ h => absurd h k1, fun _ h9 => ?_, fun _ _ _ _ => ⟨hbl, hm⟩⟩
        have h24 : manyG d x.kind = 24 := by unfold manyG; rw [if_pos h9]
        rw [h24] at hb
        refine ⟨by omega, by omega, hbl, hm, fun _ => ?_⟩
        rw [show atK x.kind = 2 by unfold atK; rw [if_neg (by omega), if_neg (by omega)]]
        unfold mvB mvR
        rw [if_neg (by omega), if_neg (by simp; omega), if_pos rfl]
      · rw [show atG (mvB d) d u x = { u with outs := u.outs ++ [((mvB d u.a1 (atK x.kind) x.block 0).e, (mvB d u.a1 (atK x.kind) x.block 0).v)], a1 := (mvB d u.a1 (atK x.kind) x.block 0).a } by unfold atG; rw [if_neg hb, if_neg hs]]
        refine ⟨_, _, rfl, fun _ => ⟨rfl, hm⟩, fun _ h => absurd h k10, fun _ h => absurd h k1, fun _ h9 => ?_, fun _ _ _ _ => ⟨rfl, hm⟩⟩
        have h24 : manyG d x.kind = 24 := by unfold manyG; rw [if_pos h9]
        rw [h24] at hb
        exact ⟨by omega, by omega, rfl, hm, fun h => absurd h hs⟩
  · rw [show stepG (mvB d) mode d u x = lnG (mvB d) mode u x by unfold stepG; rw [if_neg k0, if_neg k1, if_neg k10, if_neg k7]]
    unfold lnG
    rw [if_neg (by omega)]
    exact ⟨_, 0, rfl, fun _ => ⟨rfl, hm⟩, fun _ h => absurd h k10, fun _ h => absurd h k1, fun _ h => by omega, fun _ _ _ _ => ⟨rfl, hm⟩⟩
section
variable {α : Type} (mv : α → Int → Int → Nat → AnsG α)
theorem step_out (mode d : Nat) (t : PrT α) (x : StS) : ∃ o, (stepG mv mode d t x).outs = t.outs ++ [o] := by
  unfold stepG
  split
  · exact ⟨_, rfl⟩
  split
  · unfold wrG; repeat' split
    all_goals exact ⟨_, rfl⟩
  split
  · unfold chG; split
    all_goals exact ⟨_, rfl⟩
  split
  · unfold atG; repeat' split
    all_goals exact ⟨_, rfl⟩
  · unfold lnG; split
    all_goals exact ⟨_, rfl⟩
theorem step_main (mode d : Nat) (t : PrT α) (x : StS) (h : t.main = 1) : (stepG mv mode d t x).main = 1 := by
  unfold stepG
  split
  · exact h
  split
  · unfold wrG; repeat' split
    all_goals exact h
  split
  · unfold chG; repeat' split
    all_goals first
      | exact h
      | rfl
  split
  · unfold atG; repeat' split
    all_goals exact h
  · unfold lnG; split
    all_goals exact h
theorem play_main (mode d : Nat) (a : α) (l : List StS) (k : Nat) (h : (playG mv mode d a l k).main = 1) : ∀ j, (playG mv mode d a l (k + j)).main = 1
  | 0 => h
  | j + 1 => by
    have ih := play_main mode d a l k h j
    cases hx : l[k + j]? with
    | none => rw [← Nat.add_assoc, playG, hx]; exact ih
    | some x => rw [← Nat.add_assoc, playG_next mv hx]; exact step_main mv mode d _ x ih
theorem play_out (mode d : Nat) (a : α) (l : List StS) (k : Nat) : ∀ j, ∃ r, (playG mv mode d a l (k + j)).outs = (playG mv mode d a l k).outs ++ r
  | 0 => ⟨[], by simp⟩
  | j + 1 => by
    obtain ⟨r, ih⟩ := play_out mode d a l k j
    cases hx : l[k + j]? with
    | none => exact ⟨r, by rw [← Nat.add_assoc, playG, hx]; exact ih⟩
    | some x =>
      obtain ⟨o, ho⟩ := step_out mv mode d (playG mv mode d a l (k + j)) x
      exact ⟨r ++ [o], by rw [← Nat.add_assoc, playG_next mv hx, ho, ih, List.append_assoc]⟩
end
/-- the k-th of what is told, in the end -/
theorem out_at {mode d : Nat} {l : List StS} (hl : ∀ m ∈ l, m.val < 256) {k e v : Nat} {x : StS} (hx : l[k]? = some x) (ho : (playG (mvB d) mode d startB l (k + 1)).outs = (playG (mvB d) mode d startB l k).outs ++ [(e, v)]) : (playG (mvB d) mode d startB l l.length).outs[k]? = some (e, v) := by
  have hk : k < l.length := (List.getElem?_eq_some_iff.1 hx).1
  obtain ⟨r, hr⟩ := play_out (mvB d) mode d startB l (k + 1) (l.length - (k + 1))
  rw [show k + 1 + (l.length - (k + 1)) = l.length by omega] at hr
  have hlen := (PrOk.play (mvB d) hl mode d startB k (by omega)).ol
  rw [hr, ho, List.append_assoc, List.getElem?_append_right (by omega), hlen]
  simp
end Go.Proofs.Ytbhhijdpmpcdnaa

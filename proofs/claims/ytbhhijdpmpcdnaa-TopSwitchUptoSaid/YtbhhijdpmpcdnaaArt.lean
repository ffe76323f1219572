/-
  Discs of which one may be lost: what they hold, and what is read. Plain words.
-/
import Derived.Test.YtbhhijdpmpcdnaaArs
set_option linter.unusedVariables false
namespace Go.Proofs.Ytbhhijdpmpcdnaa

def xorAll (T : Nat → Nat → Nat) (row : Nat) : Nat → Nat
  | 0 => 0
  | k + 1 => xorAll T row k ^^^ T k row
theorem xorTo_all (T : Nat → Nat → Nat) (disc row : Nat) : ∀ n, xorAll T row n = xorTo T disc row n ^^^ (if disc < n then T disc row else 0)
  | 0 => by simp [xorAll, xorTo]
  | n + 1 => by
    rw [xorAll, xorTo, xorTo_all T disc row n]
    by_cases e : n = disc
    · subst e
      rw [if_pos rfl, if_neg (by omega), if_pos (by omega), Nat.xor_zero]
    · rw [if_neg e]
      by_cases h : disc < n
      · rw [if_pos h, if_pos (by omega), Nat.xor_assoc, Nat.xor_comm (T disc row), ← Nat.xor_assoc]
      · rw [if_neg h, if_neg (by omega), Nat.xor_zero, Nat.xor_zero]
theorem xorTo_same {f T : Nat → Nat → Nat} {disc row : Nat} : ∀ n, (∀ k, k < n → k ≠ disc → f k row = T k row) → xorTo f disc row n = xorTo T disc row n
  | 0, _ => rfl
  | n + 1, h => by
    rw [xorTo, xorTo, xorTo_same n (fun k hk he => h k (by omega) he)]
    by_cases e : n = disc
    · rw [if_pos e, if_pos e]
    · rw [if_neg e, if_neg e, h n (by omega) e]
theorem xor_zero_eq {a b : Nat} (h : a ^^^ b = 0) : a = b := by
  have h1 : (a ^^^ b) ^^^ b = b := by rw [h, Nat.zero_xor]
  rw [Nat.xor_assoc, Nat.xor_self, Nat.xor_zero] at h1
  exact h1
/-- T is what would stand on the discs if none were lost -/
structure SimD (d : Nat) (f : Nat → Nat → Nat) (z : Int) (bl : List Nat) (T : Nat → Nat → Nat) : Prop where
  par : ∀ row, row < rowsD d → xorAll T row d = 0
  data : ∀ b, b < 24 → T (placeN d b).1 (placeN d b).2 = bl.getD b 0
  rest : ∀ a row, a < d → row < rowsD d → (∀ b, b < 24 → placeN d b ≠ (a, row)) → a ≠ checkN d row → T a row = 0
  vis : ∀ a row, a < d → row < rowsD d → f a row = if (a : Int) = z then 0 else T a row
  lost : z = -1 ∨ ∃ x : Nat, x < d ∧ z = (x : Int)
  len : bl.length = 24
theorem SimD.start (d : Nat) : SimD d (fun _ _ => 0) (-1) (List.replicate 24 0) (fun _ _ => 0) := by
  refine ⟨fun row _ => ?_, fun b hb => ?_, fun _ _ _ _ _ _ => rfl, fun a row _ _ => by split <;> rfl, .inl rfl, by simp⟩
  · have : ∀ n, xorAll (fun _ _ => 0) row n = 0 := by
      intro n
      induction n with
      | zero => rfl
      | succ n ih => rw [xorAll, ih]; rfl
    exact this d
  · rw [List.getD_eq_getElem?_getD, List.getElem?_replicate, if_pos hb]; rfl
/-- the lost disc's number is the sum of the others -/
theorem SimD.other {d : Nat} {f : Nat → Nat → Nat} {z : Int} {bl : List Nat} {T : Nat → Nat → Nat} (h : SimD d f z bl T) {disc row : Nat} (hd : disc < d) (hr : row < rowsD d) (hz : (disc : Int) = z) : xorTo f disc row d = T disc row := by
  have h1 := xorTo_all T disc row d
  rw [h.par row hr, if_pos hd] at h1
  rw [xorTo_same (T := T) d (fun k hk he => by rw [h.vis k row hk hr, if_neg (by omega)])]
  exact xor_zero_eq h1.symm
theorem SimD.read {d : Nat} {f : Nat → Nat → Nat} {z : Int} {bl : List Nat} {T : Nat → Nat → Nat} (h : SimD d f z bl T) (h3 : 3 ≤ d) (h6 : d ≤ 6) {b : Nat} (hb : b < 24) : readD f z d b = bl.getD b 0 := by
  obtain ⟨_, p2, p3⟩ := placeN_is h3 h6 hb
  unfold readD
  by_cases hz : ((placeN d b).1 : Int) = z
  · rw [if_pos hz, h.other p2 p3 hz, h.data b hb]
  · rw [if_neg hz, h.vis _ _ p2 p3, if_neg hz, h.data b hb]
theorem SimD.lose {d : Nat} {f : Nat → Nat → Nat} {z : Int} {bl : List Nat} {T : Nat → Nat → Nat} (h : SimD d f z bl T) {x : Nat} (hx : x < d) (hz : ¬ 0 ≤ z) : SimD d (zeroTo f x 0 (rowsD d)) (x : Int) bl T := by
  refine ⟨h.par, h.data, h.rest, fun a row ha hr => ?_, .inr ⟨x, hx, rfl⟩, h.len⟩
  unfold zeroTo
  by_cases e : a = x
  · rw [if_pos ⟨e, by omega, by omega⟩, if_pos (by omega)]
  · rw [if_neg (by omega), if_neg (by omega), h.vis a row ha hr, if_neg (by omega)]
theorem SimD.renew {d : Nat} {f : Nat → Nat → Nat} {z : Int} {bl : List Nat} {T : Nat → Nat → Nat} (h : SimD d f z bl T) {x : Nat} (hx : x < d) (hz : (x : Int) = z) : SimD d (renewTo f x d (rowsD d)) (-1) bl T := by
  refine ⟨h.par, h.data, h.rest, fun a row ha hr => ?_, .inl rfl, h.len⟩
  rw [if_neg (by omega)]
  unfold renewTo
  by_cases e : a = x
  · subst e
    rw [if_pos ⟨rfl, hr⟩, h.other ha hr hz]
  · rw [if_neg (by omega), h.vis a row ha hr, if_neg (by omega)]
theorem placeN_inj_all : ∀ (d : Fin 4) (b b' : Fin 24), placeN (d.val + 3) b.val = placeN (d.val + 3) b'.val → b = b' := by decide
theorem placeN_check_all : ∀ (d : Fin 4) (b : Fin 24), (placeN (d.val + 3) b.val).1 ≠ checkN (d.val + 3) (placeN (d.val + 3) b.val).2 := by decide
theorem placeN_inj {d b b' : Nat} (h3 : 3 ≤ d) (h6 : d ≤ 6) (hb : b < 24) (hb' : b' < 24) (h : placeN d b = placeN d b') : b = b' := by
  have := placeN_inj_all ⟨d - 3, by omega⟩ ⟨b, hb⟩ ⟨b', hb'⟩
  simp only [show d - 3 + 3 = d by omega] at this
  exact congrArg Fin.val (this h)
theorem placeN_check {d b : Nat} (h3 : 3 ≤ d) (h6 : d ≤ 6) (hb : b < 24) : (placeN d b).1 ≠ checkN d (placeN d b).2 := by
  have := placeN_check_all ⟨d - 3, by omega⟩ ⟨b, hb⟩
  simp only [show d - 3 + 3 = d by omega] at this
  exact this
theorem xorAll_set (T : Nat → Nat → Nat) (a r x row : Nat) : ∀ n, xorAll (setD T a r x) row n = if row = r ∧ a < n then xorAll T row n ^^^ (T a row ^^^ x) else xorAll T row n
  | 0 => by rw [if_neg (by omega)]; rfl
  | n + 1 => by
    rw [xorAll, xorAll, xorAll_set T a r x row n]
    by_cases hr : row = r
    · by_cases hn : n = a
      · subst hn
        rw [if_neg (by omega), if_pos (by omega)]
        have e : setD T n r x n row = x := by unfold setD; rw [if_pos ⟨rfl, hr⟩]
        rw [e, Nat.xor_assoc, ← Nat.xor_assoc (T n row), Nat.xor_self, Nat.zero_xor]
      · have e : setD T a r x n row = T n row := by unfold setD; rw [if_neg (by omega)]
        rw [e]
        by_cases ha : a < n
        · rw [if_pos ⟨hr, ha⟩, if_pos (by omega), Nat.xor_assoc (xorAll T row n), Nat.xor_assoc (xorAll T row n), Nat.xor_comm (T a row ^^^ x)]
        · rw [if_neg (by omega), if_neg (by omega)]
    · have e : setD T a r x n row = T n row := by unfold setD; rw [if_neg (by omega)]
      rw [e, if_neg (by omega), if_neg (by omega)]
theorem setD_at (T : Nat → Nat → Nat) (a r x : Nat) : setD T a r x a r = x := by unfold setD; rw [if_pos ⟨rfl, rfl⟩]
theorem setD_ne {T : Nat → Nat → Nat} {a r x a' r' : Nat} (h : ¬ (a' = a ∧ r' = r)) : setD T a r x a' r' = T a' r' := by unfold setD; rw [if_neg h]
theorem setL_vis {d : Nat} {f T : Nat → Nat → Nat} {z : Int} (hv : ∀ a row, a < d → row < rowsD d → f a row = if (a : Int) = z then 0 else T a row) (c r x : Nat) : ∀ a row, a < d → row < rowsD d → setL f z c r x a row = if (a : Int) = z then 0 else setD T c r x a row := by
  intro a row ha hr
  unfold setL
  by_cases hc : (c : Int) = z
  · rw [if_pos hc, hv a row ha hr]
    by_cases hz : (a : Int) = z
    · rw [if_pos hz, if_pos hz]
    · rw [if_neg hz, if_neg hz, setD_ne (by omega)]
  · rw [if_neg hc]
    by_cases e : a = c ∧ row = r
    · obtain ⟨rfl, rfl⟩ := e
      rw [setD_at, if_neg hc, setD_at]
    · rw [setD_ne e, hv a row ha hr, setD_ne e]
theorem SimD.write {d : Nat} {f : Nat → Nat → Nat} {z : Int} {bl : List Nat} {T : Nat → Nat → Nat} (h : SimD d f z bl T) (h3 : 3 ≤ d) (h6 : d ≤ 6) {b v : Nat} (hb : b < 24) : ∃ T', SimD d (writeD f z d b v) z (bl.set b v) T' := by
  obtain ⟨_, p2, p3⟩ := placeN_is h3 h6 hb
  have hcd := (checkN_is h3 h6 (row := (placeN d b).2) (by have := (rowsD_is h3 h6).1; omega)).2
  have hne := placeN_check h3 h6 hb
  have hrd := h.read h3 h6 hb
  have hdat := h.data b hb
  have hins : ∀ b', b' < 24 → placeN d b' = ((placeN d b).1, (placeN d b).2) → b' = b := fun b' hb' e => placeN_inj h3 h6 hb' hb e
  have hck : ∀ b', b' < 24 → ¬ ((placeN d b').1 = checkN d (placeN d b).2 ∧ (placeN d b').2 = (placeN d b).2) := fun b' hb' e => by
    have := placeN_check h3 h6 hb'
    rw [e.2] at this
    exact this e.1
  have hy : ∀ c row, c < d → row < rowsD d → ¬ (c : Int) = z → f c row = T c row := fun c row h1 h2 h4 => by rw [h.vis c row h1 h2, if_neg h4]
  have hself : placeN d b = ((placeN d b).1, (placeN d b).2) := rfl
  unfold writeD
  rw [hrd]
  generalize (placeN d b).1 = disc at *
  generalize (placeN d b).2 = row at *
  generalize hcc : checkN d row = c at *
  generalize bl.getD b 0 = was at *
  have hL : setL f z c row ((f c row ^^^ was) ^^^ v) = setL f z c row ((T c row ^^^ was) ^^^ v) := by
    by_cases hz : (c : Int) = z
    · unfold setL; rw [if_pos hz, if_pos hz]
    · rw [hy c row hcd p3 hz]
  rw [hL]
  refine ⟨setD (setD T c row ((T c row ^^^ was) ^^^ v)) disc row v, ?_, fun b' hb' => ?_, fun a r ha hr hn hc => ?_, setL_vis (setL_vis h.vis _ _ _) _ _ _, h.lost, by rw [List.length_set]; exact h.len⟩
  · intro r hr
    rw [xorAll_set]
    by_cases e : r = row
    · subst e
      rw [if_pos ⟨rfl, p2⟩, xorAll_set, if_pos ⟨rfl, hcd⟩, h.par r hr, setD_ne (by omega), hdat, Nat.zero_xor]
      have : ∀ A w v : Nat, (A ^^^ ((A ^^^ w) ^^^ v)) ^^^ (w ^^^ v) = 0 := fun A w v => by
        rw [Nat.xor_assoc A w v, ← Nat.xor_assoc A A, Nat.xor_self, Nat.zero_xor, Nat.xor_self]
      exact this _ _ _
    · rw [if_neg (by omega), xorAll_set, if_neg (by omega), h.par r hr]
  · by_cases e : b' = b
    · subst e
      rw [hself]
      show setD _ disc row v disc row = _
      rw [setD_at, List.getD_eq_getElem?_getD, List.getElem?_set_self (by rw [h.len]; exact hb)]
      rfl
    · rw [setD_ne (fun e2 => e (hins b' hb' (by rw [← e2.1, ← e2.2]))), setD_ne (hck b' hb'), h.data b' hb', List.getD_eq_getElem?_getD, List.getD_eq_getElem?_getD, List.getElem?_set_ne (fun e2 => e e2.symm)]
  · rw [setD_ne (fun e2 => hn b hb (by rw [hself, e2.1, e2.2])), setD_ne (fun e2 => hc (by rw [e2.1, e2.2]; exact hcc.symm)), h.rest a r ha hr hn hc]
end Go.Proofs.Ytbhhijdpmpcdnaa

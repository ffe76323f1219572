/-
  What ship.Play and quipuref.Ship keep: the line, the writes, the answer's box and rows. Plain words first.
-/
import Derived.Test.YtbhhijdpmpcdnaaLine
import Derived.Deep.CutRange
import Derived.Deep.DeepCutAuto
set_option linter.unusedVariables false
namespace Go.Proofs.Ytbhhijdpmpcdnaa
open Go.RowKit

/-- a step: its kind, its site, its block, its value -/
structure StS where
  kind : Int
  site : Int
  block : Int
  val : Nat
def stC (x : StS) : List Value := [.int .i64 x.kind, .int .i64 x.site, .int .i64 x.block, .int .u8 (x.val : Int)]
structure ShT where
  codes : List Nat
  ws : List StS
  s : Nat
  g : Nat
  p : Nat
  k : Nat
  main : List Nat
  other : List Nat
def othS (ws : List StS) (other : List Nat) (kind : Int) (r : LineT) : List Nat :=
  if kind = 4 ∧ r.e = 0 then (match ws[r.p - 1]? with
    | none => other
    | some w => other.set w.block.toNat w.val) else other
def stepS (mode : Nat) (t : ShT) (x : StS) : ShT :=
  if x.kind = 1 then (if 0 ≤ x.block ∧ x.block < 8 then { t with codes := t.codes ++ [0], ws := t.ws ++ [x], main := t.main.set x.block.toNat x.val } else { t with codes := t.codes ++ [2] })
  else ⟨t.codes ++ [(doS t.ws.length mode t.s t.g t.p t.k x.kind).e], t.ws, (doS t.ws.length mode t.s t.g t.p t.k x.kind).s, (doS t.ws.length mode t.s t.g t.p t.k x.kind).g, (doS t.ws.length mode t.s t.g t.p t.k x.kind).p, (doS t.ws.length mode t.s t.g t.p t.k x.kind).k, t.main, othS t.ws t.other x.kind (doS t.ws.length mode t.s t.g t.p t.k x.kind)⟩
def playS (mode : Nat) (l : List StS) : Nat → ShT
  | 0 => ⟨[], [], 0, 0, 0, 0, List.replicate 8 0, List.replicate 8 0⟩
  | k + 1 => match l[k]? with
    | none => playS mode l k
    | some x => stepS mode (playS mode l k) x
theorem playS_next {mode : Nat} {l : List StS} {k : Nat} {x : StS} (h : l[k]? = some x) : playS mode l (k + 1) = stepS mode (playS mode l k) x := by rw [playS, h]
/-- what holds at each time -/
structure ShOk (t : ShT) (n : Nat) : Prop where
  le1 : t.p ≤ t.g
  le2 : t.g ≤ t.s
  le3 : t.s ≤ t.ws.length
  le4 : t.ws.length ≤ n
  le5 : t.k ≤ t.g
  cl : t.codes.length = n
  wb : ∀ x ∈ t.ws, 0 ≤ x.block ∧ x.block < 8 ∧ x.val < 256
  ml : t.main.length = 8
  ol : t.other.length = 8
theorem doS_ok {N mode s g p k : Nat} (kind : Int) (h1 : p ≤ g) (h2 : g ≤ s) (h3 : s ≤ N) (h5 : k ≤ g) : (doS N mode s g p k kind).p ≤ (doS N mode s g p k kind).g ∧ (doS N mode s g p k kind).g ≤ (doS N mode s g p k kind).s ∧ (doS N mode s g p k kind).s ≤ N ∧ (doS N mode s g p k kind).k ≤ (doS N mode s g p k kind).g := by
  unfold doS
  repeat' split
  all_goals (simp only; omega)
theorem othS_len (ws : List StS) (other : List Nat) (kind : Int) (r : LineT) : (othS ws other kind r).length = other.length := by
  unfold othS
  split
  · split
    · rfl
    · rw [List.length_set]
  · rfl
theorem ShOk.start : ShOk ⟨[], [], 0, 0, 0, 0, List.replicate 8 0, List.replicate 8 0⟩ 0 := ⟨Nat.le_refl _, Nat.le_refl _, Nat.le_refl _, Nat.le_refl _, Nat.le_refl _, rfl, by simp, by simp, by simp⟩
theorem ShOk.step {t : ShT} {n : Nat} (h : ShOk t n) (mode : Nat) (x : StS) (hx : x.val < 256) : ShOk (stepS mode t x) (n + 1) := by
  have h4 := h.le4
  unfold stepS
  by_cases h1 : x.kind = 1
  · rw [if_pos h1]
    by_cases h2 : 0 ≤ x.block ∧ x.block < 8
    · rw [if_pos h2]
      refine ⟨h.le1, h.le2, ?_, ?_, h.le5, by simp [h.cl], ?_, by simp [h.ml], h.ol⟩
      · have := h.le3; simp; omega
      · simp; omega
      · intro y hy
        rcases List.mem_append.1 hy with hy | hy
        · exact h.wb y hy
        · rw [List.mem_singleton.1 hy]; exact ⟨h2.1, h2.2, hx⟩
    · rw [if_neg h2]
      exact ⟨h.le1, h.le2, h.le3, Nat.le_succ_of_le h4, h.le5, by simp [h.cl], h.wb, h.ml, h.ol⟩
  · rw [if_neg h1]
    obtain ⟨a, b, c, d⟩ := doS_ok (mode := mode) x.kind h.le1 h.le2 h.le3 h.le5
    exact ⟨a, b, c, Nat.le_succ_of_le h4, d, by simp [h.cl], h.wb, h.ml, by rw [othS_len]; exact h.ol⟩
theorem ShOk.play {l : List StS} (hl : ∀ x ∈ l, x.val < 256) (mode : Nat) : ∀ k, k ≤ l.length → ShOk (playS mode l k) k
  | 0, _ => ShOk.start
  | k + 1, hk => by
    have hx : l[k]? = some l[k] := List.getElem?_eq_getElem (by omega)
    rw [playS_next hx]
    exact (ShOk.play hl mode k (by omega)).step mode _ (hl _ (List.mem_of_getElem? hx))

section
variable {w w' : World} {B sb gm go : Nat} {CV WV : Value} {codes : List Nat} {ws : List StS} {main other : List Nat} {F : Nat → Prop}
end
end Go.Proofs.Ytbhhijdpmpcdnaa

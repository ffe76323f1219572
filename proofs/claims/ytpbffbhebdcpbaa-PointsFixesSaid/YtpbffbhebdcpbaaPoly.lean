/-
  Polynomials over the sixteen numbers: products with one factor more, division, and that as many values as coefficients tell them. Plain words.
-/
import Derived.Test.YtpbffbhebdcpbaaGf
set_option linter.unusedVariables false
namespace Go.Proofs.Ytpbffbhebdcpbaa
open Go.RowKit

theorem gm_eq0_fin : ∀ a b : Fin 16, gm a.val b.val = 0 → a.val = 0 ∨ b.val = 0 := by decide +kernel
theorem gm_eq0 {a b : Nat} (ha : a < 16) (hb : b < 16) (h : gm a b = 0) : a = 0 ∨ b = 0 := gm_eq0_fin ⟨a, ha⟩ ⟨b, hb⟩ h
theorem inv_fin' : ∀ a : Fin 16, a.val ≠ 0 → gm a.val (gp a.val 14) = 1 := by decide +kernel
theorem gm_inv {a : Nat} (ha : a < 16) (h0 : a ≠ 0) : gm a (gp a 14) = 1 := inv_fin' ⟨a, ha⟩ h0
def all16 (l : List Nat) : Prop := ∀ c ∈ l, c < 16
theorem all16_nil : all16 [] := fun _ h => by cases h
theorem all16_cons {c : Nat} {t : List Nat} : all16 (c :: t) ↔ c < 16 ∧ all16 t := by
  constructor
  · intro h; exact ⟨h c (List.mem_cons_self ..), fun y hy => h y (List.mem_cons_of_mem _ hy)⟩
  · rintro ⟨h1, h2⟩ y hy
    rcases List.mem_cons.1 hy with rfl | hy
    · exact h1
    · exact h2 y hy
def addP (a b : List Nat) : List Nat := List.zipWith (· ^^^ ·) a b
theorem addP_16 {a b : List Nat} (ha : all16 a) (hb : all16 b) : all16 (addP a b) := by
  induction a generalizing b with
  | nil => exact all16_nil
  | cons x a ih => cases b with
    | nil => exact all16_nil
    | cons y b =>
      have h1 := all16_cons.1 ha
      have h2 := all16_cons.1 hb
      exact all16_cons.2 ⟨xor_lt16 h1.1 h2.1, ih h1.2 h2.2⟩
theorem xor4 (a b c d : Nat) : (a ^^^ b) ^^^ (c ^^^ d) = (a ^^^ c) ^^^ (b ^^^ d) := by
  rw [Nat.xor_assoc, Nat.xor_assoc, ← Nat.xor_assoc b, Nat.xor_comm b c, Nat.xor_assoc c b d]
theorem horn_add {x : Nat} (hx : x < 16) : ∀ {a b : List Nat}, all16 a → all16 b → a.length = b.length → horn x (addP a b) = horn x a ^^^ horn x b
  | [], [], _, _, _ => by simp [addP, horn]
  | c :: a, d :: b, ha, hb, hl => by
    have h1 := all16_cons.1 ha
    have h2 := all16_cons.1 hb
    show gm (horn x (addP a b)) x ^^^ (c ^^^ d) = _
    rw [horn_add hx h1.2 h2.2 (by simpa using hl), gm_dist (horn_lt hx h1.2) (horn_lt hx h2.2) hx, xor4]; rfl
  | [], _ :: _, _, _, hl => by simp at hl
  | _ :: _, [], _, _, hl => by simp at hl
def sclP (s : Nat) (l : List Nat) : List Nat := l.map fun c => gm c s
theorem sclP_16 {s : Nat} (hs : s < 16) {l : List Nat} (hl : all16 l) : all16 (sclP s l) := by
  intro y hy
  obtain ⟨c, hc, rfl⟩ := List.mem_map.1 hy
  exact gm_lt (hl c hc) hs
theorem horn_scl {x s : Nat} (hx : x < 16) (hs : s < 16) : ∀ {l : List Nat}, all16 l → horn x (sclP s l) = gm (horn x l) s
  | [], _ => by simp [sclP, horn, zero_gm hs]
  | c :: t, hl => by
    have h1 := all16_cons.1 hl
    have hh := horn_lt hx h1.2
    show gm (horn x (sclP s t)) x ^^^ gm c s = _
    rw [horn_scl hx hs h1.2, gm_assoc hh hs hx, gm_comm hs hx, ← gm_assoc hh hx hs, ← gm_dist (gm_lt hh hx) h1.1 hs]; rfl
theorem horn_zeros (x : Nat) (hx : x < 16) (n : Nat) : horn x (List.replicate n 0) = 0 := by
  induction n with
  | zero => rfl
  | succ n ih => rw [List.replicate_succ, horn, ih, zero_gm hx]; rfl
theorem horn_snoc0 {x : Nat} (hx : x < 16) : ∀ l : List Nat, horn x (l ++ [0]) = horn x l
  | [] => by simp [horn, zero_gm hx]
  | c :: t => by rw [List.cons_append, horn, horn_snoc0 hx t, horn]
/-- times (x - c) -/
def mulP (c : Nat) (own : List Nat) : List Nat := addP (sclP c own ++ [0]) (0 :: own)
theorem mulP_len (c : Nat) (own : List Nat) : (mulP c own).length = own.length + 1 := by simp [mulP, addP, sclP]
theorem mulP_16 {c : Nat} (hc : c < 16) {own : List Nat} (ho : all16 own) : all16 (mulP c own) := by
  refine addP_16 ?_ (all16_cons.2 ⟨by omega, ho⟩)
  intro y hy
  rcases List.mem_append.1 hy with hy | hy
  · exact sclP_16 hc ho y hy
  · rw [List.mem_singleton.1 hy]; omega
theorem horn_mulP {x c : Nat} (hx : x < 16) (hc : c < 16) {own : List Nat} (ho : all16 own) : horn x (mulP c own) = gm (horn x own) (x ^^^ c) := by
  have hh := horn_lt hx ho
  have h1 : all16 (sclP c own ++ [0]) := by
    intro y hy
    rcases List.mem_append.1 hy with hy | hy
    · exact sclP_16 hc ho y hy
    · rw [List.mem_singleton.1 hy]; omega
  unfold mulP
  rw [horn_add hx h1 (all16_cons.2 ⟨by omega, ho⟩) (by simp [sclP]), horn_snoc0 hx, horn_scl hx hc ho]
  show gm (horn x own) c ^^^ (gm (horn x own) x ^^^ 0) = _
  rw [Nat.xor_zero, gm_comm hh (xor_lt16 hx hc), gm_dist hx hc hh, gm_comm hx hh, gm_comm hc hh, Nat.xor_comm]
/-- by (x - r) -/
def divP (r : Nat) : List Nat → List Nat
  | [] => []
  | [_] => []
  | _ :: c :: t => horn r (c :: t) :: divP r (c :: t)
theorem divP_len (r : Nat) : ∀ l : List Nat, (divP r l).length = l.length - 1
  | [] => rfl
  | [_] => rfl
  | _ :: c :: t => by rw [divP, List.length_cons, divP_len r (c :: t)]; simp
theorem divP_16 {r : Nat} (hr : r < 16) : ∀ l : List Nat, all16 l → all16 (divP r l)
  | [], _ => all16_nil
  | [_], _ => all16_nil
  | _ :: c :: t, h => by
    have h1 := (all16_cons.1 h).2
    exact all16_cons.2 ⟨horn_lt hr h1, divP_16 hr (c :: t) h1⟩
theorem xor_swap (a b : Nat) : a ^^^ b ^^^ b = a := by rw [Nat.xor_assoc, Nat.xor_self, Nat.xor_zero]
theorem horn_div {x r : Nat} (hx : x < 16) (hr : r < 16) : ∀ l : List Nat, all16 l → horn x l = gm (horn x (divP r l)) (x ^^^ r) ^^^ horn r l
  | [], _ => by simp [divP, horn, zero_gm (xor_lt16 hx hr)]
  | [a], _ => by simp [divP, horn, zero_gm (xor_lt16 hx hr), zero_gm hx, zero_gm hr]
  | a :: c :: t, h => by
    have h1 := all16_cons.1 h
    have ih := horn_div hx hr (c :: t) h1.2
    have hq := horn_lt hx (divP_16 hr _ h1.2)
    have hh := horn_lt hr h1.2
    show gm (horn x (c :: t)) x ^^^ a = gm (gm (horn x (divP r (c :: t))) x ^^^ horn r (c :: t)) (x ^^^ r) ^^^ (gm (horn r (c :: t)) r ^^^ a)
    generalize horn x (divP r (c :: t)) = q at *
    generalize horn r (c :: t) = h at *
    rw [ih]
    have hxr := xor_lt16 hx hr
    rw [gm_dist (gm_lt hq hxr) hh hx, gm_dist (gm_lt hq hx) hh hxr, gm_assoc hq hx hxr, gm_assoc hq hxr hx, gm_comm hxr hx]
    rw [gm_comm hh hxr, gm_dist hx hr hh, gm_comm hx hh, gm_comm hr hh]
    generalize gm q (gm x (x ^^^ r)) = u
    generalize gm h x = v
    generalize gm h r = y
    rw [← Nat.xor_assoc (u ^^^ (v ^^^ y)), ← Nat.xor_assoc u v y, xor_swap]
theorem div_zeros {r : Nat} (hr : r < 16) : ∀ l : List Nat, horn r l = 0 → divP r l = List.replicate (l.length - 1) 0 → l = List.replicate l.length 0
  | [], _, _ => rfl
  | [a], h, _ => by
    have : a = 0 := by simpa [horn, zero_gm hr] using h
    rw [this]; rfl
  | a :: c :: t, h, hd => by
    rw [divP] at hd
    have e : (a :: c :: t).length - 1 = (c :: t).length - 1 + 1 := by simp
    rw [e, List.replicate_succ] at hd
    injection hd with h1 h2
    have ih := div_zeros hr (c :: t) h1 h2
    have ha : a = 0 := by
      have h3 : horn r (a :: c :: t) = gm (horn r (c :: t)) r ^^^ a := rfl
      rw [h3, h1, zero_gm hr, Nat.zero_xor] at h
      exact h
    rw [ha, List.length_cons, List.replicate_succ, ← ih]
/-- as many zeros as coefficients -/
theorem poly_zero : ∀ (rs : List Nat) (l : List Nat), l.length = rs.length → all16 l → all16 rs → rs.Nodup → (∀ r ∈ rs, horn r l = 0) → l = List.replicate l.length 0
  | [], l, hl, _, _, _, _ => by rw [List.eq_nil_of_length_eq_zero hl]; rfl
  | r :: rs, l, hl, h16, hr16, hnd, hz => by
    have hr := all16_cons.1 hr16
    have hnd2 := List.nodup_cons.1 hnd
    have h0 := hz r (List.mem_cons_self ..)
    have hd16 := divP_16 hr.1 l h16
    have hdl := divP_len r l
    simp only [List.length_cons] at hl
    have ih := poly_zero rs (divP r l) (by omega) hd16 hr.2 hnd2.2 (fun x hx => by
      have hx16 := hr.2 x hx
      have h1 := horn_div hx16 hr.1 l h16
      rw [hz x (List.mem_cons_of_mem _ hx), h0, Nat.xor_zero] at h1
      rcases gm_eq0 (horn_lt hx16 hd16) (xor_lt16 hx16 hr.1) h1.symm with h2 | h2
      · exact h2
      · exfalso
        apply hnd2.1
        have e : x = r := by
          have := congrArg (· ^^^ r) h2
          simp only [Nat.zero_xor, xor_swap] at this
          exact this
        rw [← e]; exact hx)
    rw [hdl] at ih
    exact div_zeros hr.1 l h0 ih
theorem addP_len (a b : List Nat) : (addP a b).length = min a.length b.length := by simp [addP]
theorem addP_zero : ∀ (a b : List Nat), a.length = b.length → addP a b = List.replicate a.length 0 → a = b
  | [], [], _, _ => rfl
  | x :: a, y :: b, hl, h => by
    rw [List.length_cons, List.replicate_succ] at h
    have h' : (x ^^^ y) :: addP a b = 0 :: List.replicate a.length 0 := h
    injection h' with h1 h2
    rw [addP_zero a b (by simpa using hl) h2]
    have e : x = y := by
      have := congrArg (· ^^^ y) h1
      simp only [Nat.zero_xor, xor_swap] at this
      exact this
    rw [e]
  | [], _ :: _, hl, _ => by simp at hl
  | _ :: _, [], hl, _ => by simp at hl
theorem poly_uniq {rs a b : List Nat} (ha : all16 a) (hb : all16 b) (hla : a.length = rs.length) (hlb : b.length = rs.length) (hr16 : all16 rs) (hnd : rs.Nodup) (h : ∀ r ∈ rs, horn r a = horn r b) : a = b := by
  have hl : (addP a b).length = rs.length := by rw [addP_len]; omega
  have := poly_zero rs (addP a b) hl (addP_16 ha hb) hr16 hnd (fun r hr => by rw [horn_add (hr16 r hr) ha hb (by omega), h r hr, Nat.xor_self])
  rw [hl, ← hla] at this
  exact addP_zero a b (by omega) this
end Go.Proofs.Ytpbffbhebdcpbaa

/-
  double.divide, double.fill.
-/
import Derived.Test.YthbmnaonnebnhaaDoublef
import Derived.Test.YthbmnaonnebnhaaStore
import Derived.Test.YthbmnaonnebnhaaQuiet
import Derived.Deep.RegionWith
set_option linter.unusedVariables false
namespace Go.Proofs.Ythbmnaonnebnhaa
open Go.RowKit

theorem double_divide (a b : Nat) (w : World) (ha : a < 16) (hb : b < 16) :
    Calls Try.prog 72 #[.int .i64 (a : Int), .int .i64 (b : Int)] w (Ret w (.int .i64 (dvG a b : Int))) := by
  have c1 : Calls Try.prog 43 #[.int .i64 (b : Int), .int .i64 14] w (Ret w (.int .i64 (gp b 14 : Int))) := field_Power b 14 w hb (by omega)
  have c2 := field_Times a (gp b 14) w ha (gp_lt hb 14)
  have e : dvG a b = gm a (gp b 14) := rfl
  rw [e]
  generalize gm a (gp b 14) = r at *
  generalize gp b 14 = q at *
  go_enter Try.func72, Try.ntmps72
  go_wp2_with (first | (go_at_call 43; refine c1.mono ?_; rintro e w' ⟨rfl, rfl⟩) | (go_at_call 41; refine c2.mono ?_; rintro e w' ⟨rfl, rfl⟩))
  go_ret
  exact ⟨rfl, rfl⟩
theorem grown_setCellD (w : World) (p : Addr) (u : Value) : w.grownBy (w.setCell p u) (some p.block) := by
  have hb := (Below.refl 0 w).setCell (Nat.zero_le p.block) u
  exact ⟨hb.os, hb.tape, hb.output, hb.size, fun k hk hne => Below.heap_setCell w p u k (fun e => hne (by rw [e]))⟩
theorem grown_drewD {w w' : World} {row : Option Nat} (n : Nat) (h : (w.drewN n).grownBy w' row) : w.grownBy w' row := ⟨h.os, h.tape, h.output, h.size, h.block⟩
theorem grown_toD {w w' : World} {row : Option Nat} (h : w.grownBy w' row) : w.grownBy w'.drew row := ⟨h.os, h.tape, h.output, h.size, h.block⟩
/-- nothing was returned; the row holds l -/
def RowTo (w : World) (base g N cap : Nat) (E : TypeId) (l : List Nat) (e : Ending) (w' : World) : Prop :=
  e = .returned (.tuple #[]) ∧ Own w' base E (.slice (some ⟨g, 0, none⟩) N cap) (vn .i64 l) ∧ w.grownBy w' (some g)
set_option maxRecDepth 100000 in
set_option maxHeartbeats 800000 in
theorem double_fill0 (n c2 m g N cap base p q : Nat) (A2 : Option Addr) (hasP : Bool) (l : List Nat) (w : World) (ho : Own w base 3 (.slice (some ⟨g, 0, none⟩) N cap) (vn .i64 l)) (hm : m = 0) :
    Calls Try.prog 54 #[.slice (some ⟨g, 0, none⟩) n n, .slice A2 m c2, .int .i64 (p : Int), .int .i64 (q : Int), .bool hasP] w (RowTo w base g N cap 3 l) := by
  subst hm
  go_enter Try.func54, Try.ntmps54
  go_wp2
  go_end0
  exact ⟨rfl, ho, World.grownBy.refl _ _⟩
set_option maxRecDepth 100000 in
set_option maxHeartbeats 800000 in
theorem double_fill1 (n c2 m g N cap base p q i : Nat) (ad : Addr) (hasP : Bool) (l : List Nat) (w : World) {B : Nat} (ho : Own w base 3 (.slice (some ⟨g, 0, none⟩) N cap) (vn .i64 l)) (hr : Reads w B (some ad) 1 (vn .i64 [i])) (hi : i < n) (hnN : n ≤ N) (hN : N ≤ 1000) (hp : p < 16) (hq : q < 16) (hl : l.length = N) :
    Calls Try.prog 54 #[.slice (some ⟨g, 0, none⟩) n n, .slice (some ad) 1 c2, .int .i64 (p : Int), .int .i64 (q : Int), .bool hasP] w
      (RowTo w base g N cap 3 (setG l [i] (solG l [i] p q hasP).1 (solG l [i] p q hasP).2)) := by
  obtain ⟨ad', x, e, _, hx, hc⟩ := hr.nat_at (k := 0) (by omega)
  injection e with e; subst e
  obtain rfl : x = i := by simpa using hx.symm
  have hc0 : w.cell? ad = some (.int .i64 (x : Int)) := by simpa [Addr.add] using hc
  obtain ⟨y, hy⟩ : ∃ y, l[x]? = some y := ⟨_, List.getElem?_eq_getElem (by omega)⟩
  have hcell := ho.cell (j := x) (u := .int .i64 (y : Int)) (by rw [List.getElem?_map, hy]; rfl)
  have hfz := ho.frozenAt x
  have hset := fun v : Nat => ho.set x (.int .i64 (v : Int))
  simp only [vn_set] at hset
  rw [add_row] at hcell hfz
  simp only [add_row] at hset
  have i1 : (x : Int) < (n : Int) := by omega
  have i0 : (0 : Int) ≤ (x : Int) := by omega
  have HE : Hid (setG l [x] (solG l [x] p q hasP).1 (solG l [x] p q hasP).2 = l.set x (if hasP then p else dvG q (gp 2 x))) := by cases hasP <;> rfl
  clear hc hx hy hl
  cases hasP with
  | true =>
    go_enter Try.func54, Try.ntmps54
    go_wp2
    go_end0
    refine ⟨rfl, ?_, grown_setCellD w ⟨g, x, none⟩ _⟩
    rw [HE.out]; exact hset p
  | false =>
    have cP : ∀ W, Calls Try.prog 43 #[.int .i64 2, .int .i64 (x : Int)] W (Ret W (.int .i64 (gp 2 x : Int))) := fun W => field_Power 2 x W (by omega) (by omega)
    have hg := gp_lt (a := 2) (by omega) x
    have cD := fun W => double_divide q (gp 2 x) W hq hg
    have HE2 : Hid (setG l [x] (solG l [x] p q false).1 (solG l [x] p q false).2 = l.set x (dvG q (gp 2 x))) := by unfold Hid; rw [HE.out]; rfl
    clear HE
    have hd := dvG_lt hq hg
    generalize dvG q (gp 2 x) = d at *
    generalize gp 2 x = g2 at *
    go_enter Try.func54, Try.ntmps54
    go_wp2
    go_region_with (first | (go_at_call 43; refine (cP _).mono ?_; rintro e w' ⟨rfl, rfl⟩) | (go_at_call 72; refine (cD _).mono ?_; rintro e w' ⟨rfl, rfl⟩))
    all_goals
      go_end0
      exact ⟨rfl, by rw [HE2.out]; exact hset d, grown_toD (grown_setCellD w ⟨g, x, none⟩ _)⟩
set_option maxRecDepth 100000 in
set_option maxHeartbeats 1600000 in
theorem double_fill2 (n c2 m g N cap base p q i j : Nat) (ad : Addr) (hasP : Bool) (l : List Nat) (w : World) {B : Nat} (ho : Own w base 3 (.slice (some ⟨g, 0, none⟩) N cap) (vn .i64 l)) (hr : Reads w B (some ad) 2 (vn .i64 [i, j])) (hi : i < n) (hj : j < n) (hij : i ≠ j) (hnN : n ≤ N) (hn12 : n ≤ 12) (hN : N ≤ 1000) (hp : p < 16) (hq : q < 16) (hl : l.length = N) :
    Calls Try.prog 54 #[.slice (some ⟨g, 0, none⟩) n n, .slice (some ad) 2 c2, .int .i64 (p : Int), .int .i64 (q : Int), .bool hasP] w
      (RowTo w base g N cap 3 (setG l [i, j] (solG l [i, j] p q hasP).1 (solG l [i, j] p q hasP).2)) := by
  have hc0 : w.cell? ad = some (.int .i64 (i : Int)) := by
    obtain ⟨ad', x, e, _, hx, hc⟩ := hr.nat_at (k := 0) (by omega)
    injection e with e; subst e
    obtain rfl : x = i := by simpa using hx.symm
    simpa [Addr.add] using hc
  have hc1 : w.cell? (ad.add 1) = some (.int .i64 (j : Int)) := by
    obtain ⟨ad', x, e, _, hx, hc⟩ := hr.nat_at (k := 1) (by omega)
    injection e with e; subst e
    obtain rfl : x = j := by simpa using hx.symm
    exact hc
  have hc1' := hc1
  simp [Addr.add] at hc1'
  have hcel : ∀ k, k < n → ∃ y : Nat, w.cell? ⟨g, k, none⟩ = some (.int .i64 (y : Int)) ∧ w.frozen? ⟨g, k, none⟩ = false := by
    intro k hk
    have hy : l[k]? = some l[k] := List.getElem?_eq_getElem (by omega)
    have h1 := ho.cell (j := k) (u := .int .i64 (l[k] : Int)) (by rw [List.getElem?_map, hy]; rfl)
    have h2 := ho.frozenAt k
    rw [add_row] at h1 h2
    exact ⟨_, h1, h2⟩
  obtain ⟨yi, hci, hfi⟩ := hcel i hi
  obtain ⟨yj, hcj, hfj⟩ := hcel j hj
  have hi0 : (0 : Int) ≤ (i : Int) := by omega
  have hj0 : (0 : Int) ≤ (j : Int) := by omega
  have hi1 : (i : Int) < (n : Int) := by omega
  have hj1 : (j : Int) < (n : Int) := by omega
  have cP : ∀ (k : Nat) W, k < 12 → Calls Try.prog 43 #[.int .i64 2, .int .i64 (k : Int)] W (Ret W (.int .i64 (gp 2 k : Int))) := fun k W hk => field_Power 2 k W (by omega) (by omega)
  have g1 := gp_lt (a := 2) (by omega) i
  have g2 := gp_lt (a := 2) (by omega) j
  have g3 := gm_lt hp g2
  have g4 := xor_lt16 hq g3
  have g5 := xor_lt16 g1 g2
  have g6 := dvG_lt g4 g5
  have cT := fun W => field_Times p (gp 2 j) W hp g2
  have cD := fun W => double_divide _ _ W g4 g5
  have e1 := i64_xor_nat q (gm p (gp 2 j)) (by omega) (by omega)
  have e2 := i64_xor_nat (gp 2 i) (gp 2 j) (by omega) (by omega)
  have e3 := i64_xor_nat (dvG (q ^^^ gm p (gp 2 j)) (gp 2 i ^^^ gp 2 j)) p (by omega) (by omega)
  have HE : Hid (setG l [i, j] (solG l [i, j] p q hasP).1 (solG l [i, j] p q hasP).2 = (l.set i (dvG (q ^^^ gm p (gp 2 j)) (gp 2 i ^^^ gp 2 j))).set j (dvG (q ^^^ gm p (gp 2 j)) (gp 2 i ^^^ gp 2 j) ^^^ p)) := rfl
  have HIJ := Lib.hid hij
  clear hcel hr hij hl
  have i12 : i < 12 := by omega
  have j12 : j < 12 := by omega
  go_enter Try.func54, Try.ntmps54
  go_wp2
  go_quiet ((go_at_call 43; exact quietR (cP _ _ (by omega))))
  generalize dvG (q ^^^ gm p (gp 2 j)) (gp 2 i ^^^ gp 2 j) = d at *
  generalize q ^^^ gm p (gp 2 j) = x4 at *
  generalize gp 2 i ^^^ gp 2 j = x5 at *
  generalize gm p (gp 2 j) = x3 at *
  generalize gp 2 i = x1 at *
  generalize gp 2 j = x2 at *
  go_wp2_with (first | (go_at_call 41; refine (cT _).mono ?_; rintro e w' ⟨rfl, rfl⟩) | (go_at_call 72; refine (cD _).mono ?_; rintro e w' ⟨rfl, rfl⟩))
  have hcj2 : ((w.drewN (nq + 1)).setCell ⟨g, i, none⟩ (.int .i64 (d : Int))).cell? ⟨g, j, none⟩ = some (.int .i64 (yj : Int)) := (World.cell?_setCell_other _ _ _ _ (fun e => HIJ.out (congrArg Addr.off e))).trans hcj
  have hfj2 : ((w.drewN (nq + 1)).setCell ⟨g, i, none⟩ (.int .i64 (d : Int))).frozen? ⟨g, j, none⟩ = false := by rw [World.frozen?_setCell]; exact hfj
  have hci2 : (w.drewN (nq + 1)).cell? ⟨g, i, none⟩ = some (.int .i64 (yi : Int)) := hci
  have hfi2 : (w.drewN (nq + 1)).frozen? ⟨g, i, none⟩ = false := hfi
  have ho2 := ((ho.drewN (nq + 1)).set i (.int .i64 (d : Int))).set j (.int .i64 ((d ^^^ p : Nat) : Int))
  rw [add_row, add_row, vn_set, vn_set] at ho2
  have hg2 := grown_drewD (nq + 1) ((grown_setCellD (w.drewN (nq + 1)) ⟨g, i, none⟩ (.int .i64 (d : Int))).trans (grown_setCellD _ ⟨g, j, none⟩ (.int .i64 ((d ^^^ p : Nat) : Int))))
  go_region
  go_wp2
  go_end0
  exact ⟨rfl, by rw [HE.out]; exact ho2, hg2⟩
end Go.Proofs.Ythbmnaonnebnhaa

/-
  stripe.Write, Renew, Lose.
-/
import Derived.Test.YtbhhijdpmpcdnaaArr
import Derived.StillTailTactics
set_option linter.unusedVariables false
namespace Go.Proofs.Ytbhhijdpmpcdnaa
open Go.RowKit

def checkN (d row : Nat) : Nat := d - 1 - row % d
theorem checkN_all : ∀ (d : Fin 4) (row : Fin 12), checkD ((d.val + 3 : Nat) : Int) ((row.val : Nat) : Int) = ((checkN (d.val + 3) row.val : Nat) : Int) ∧ checkN (d.val + 3) row.val < d.val + 3 := by decide
theorem checkN_is {d row : Nat} (h3 : 3 ≤ d) (h6 : d ≤ 6) (hr : row < 12) : checkD (d : Int) (row : Int) = ((checkN d row : Nat) : Int) ∧ checkN d row < d := by
  have := checkN_all ⟨d - 3, by omega⟩ ⟨row, hr⟩
  simp only [show d - 3 + 3 = d by omega] at this
  exact this
theorem setL_lt {f : Nat → Nat → Nat} (hf : ∀ a b, f a b < 256) (z : Int) (disc row b : Nat) (hb : b < 256) : ∀ x y, setL f z disc row b x y < 256 := by
  intro x y
  unfold setL
  split
  · exact hf x y
  · unfold setD
    split
    · exact hb
    · exact hf x y
theorem readD_lt {f : Nat → Nat → Nat} (hf : ∀ a b, f a b < 256) (z : Int) (d b : Nat) : readD f z d b < 256 := by
  unfold readD
  split
  · exact xorTo_lt hf d
  · exact hf _ _
theorem xor_lt256 {a b : Nat} (ha : a < 256) (hb : b < 256) : a ^^^ b < 256 := Nat.xor_lt_two_pow (n := 8) (by omega) (by omega)
def writeD (f : Nat → Nat → Nat) (z : Int) (d b v : Nat) : Nat → Nat → Nat :=
  setL (setL f z (checkN d (placeN d b).2) (placeN d b).2 ((f (checkN d (placeN d b).2) (placeN d b).2 ^^^ readD f z d b) ^^^ v)) z (placeN d b).1 (placeN d b).2 v
theorem writeD_lt {f : Nat → Nat → Nat} (hf : ∀ a b, f a b < 256) (z : Int) (d b v : Nat) (hv : v < 256) : ∀ x y, writeD f z d b v x y < 256 :=
  setL_lt (setL_lt hf z _ _ _ (xor_lt256 (xor_lt256 (hf _ _) (readD_lt hf z d b)) hv)) z _ _ _ hv
set_option maxHeartbeats 1600000 in
theorem stripe_Write (b0 hb d b v : Nat) (z : Int) (gr : Nat → Nat) (f : Nat → Nat → Nat) (w : World) (h : TabD w b0 hb (rowsD d) d d gr (.int .i64 z) f) (hf : Hid (∀ a b, f a b < 256)) (h3 : 3 ≤ d) (h6 : d ≤ 6) (hb24 : b < 24) (hv : v < 256) :
    Calls Try.prog 28 #[.pointer (some ⟨hb, 0, none⟩), .int .i64 (b : Int), .int .u8 (v : Int)] w (fun e w' => e = .returned (.tuple #[]) ∧ TabD w' b0 hb (rowsD d) d d gr (.int .i64 z) (writeD f z d b v) ∧ OnlyIn w w' d gr) := by
  obtain ⟨p1, p2, p3⟩ := placeN_is h3 h6 hb24
  have hr12 := (rowsD_is h3 h6).1
  obtain ⟨q1, q2⟩ := checkN_is h3 h6 (row := (placeN d b).2) (by omega)
  have cp := stripe_place (d : Int) (b : Int) _ _ w (by omega) (by omega) (by omega) (by omega) p1
  have cc := stripe_check (d : Int) ((placeN d b).2 : Int) _ w (by omega) (by omega) (by omega) (by omega) q1
  have cr := stripe_Read b0 hb d b z gr f w h hf h3 h6 hb24
  have hW : writeD f z d b v = setL (setL f z (checkN d (placeN d b).2) (placeN d b).2 ((f (checkN d (placeN d b).2) (placeN d b).2 ^^^ readD f z d b) ^^^ v)) z (placeN d b).1 (placeN d b).2 v := rfl
  have hrd := readD_lt hf.out z d b
  have HW := Lib.hid hW
  rw [HW.out]
  clear hW HW
  generalize (placeN d b).1 = disc at *
  generalize (placeN d b).2 = row at *
  generalize checkN d row = c at *
  generalize readD f z d b = was at *
  have c0 := h.tab
  have c2 := h.rowAt (i := c) q2 q2
  have c3 := h.cellAt (i := c) (j := row) p3 q2
  have hx1 := u8_xor_nat (f c row) was (hf.out _ _) hrd
  have hx2 := u8_xor_nat (f c row ^^^ was) v (xor_lt256 (hf.out _ _) hrd) hv
  have hfc := hf.out c row
  obtain ⟨y, hy⟩ : ∃ y, (f c row ^^^ was) ^^^ v = y := ⟨_, rfl⟩
  rw [hy] at hx2 ⊢
  have hy256 : y < 256 := by rw [← hy]; exact xor_lt256 (xor_lt256 hfc hrd) hv
  clear hy
  obtain ⟨x1, hx1e⟩ : ∃ x1, f c row ^^^ was = x1 := ⟨_, rfl⟩
  rw [hx1e] at hx1 hx2
  clear hx1e
  have cs1 := stripe_set b0 hb (rowsD d) d c row y z gr f w h h6 q2 p3
  have cs2 := fun (w' : World) (ht : TabD w' b0 hb (rowsD d) d d gr (.int .i64 z) (setL f z c row y)) => stripe_set b0 hb (rowsD d) d disc row v z gr _ w' ht h6 p2 p3
  generalize rowsD d = r at *
  have z0 : (0 : Int) ≤ (row : Int) := by omega
  have z1 : (row : Int) < (r : Int) := by omega
  have z2 : (0 : Int) ≤ (c : Int) := by omega
  have z3 : (c : Int) < (d : Int) := by omega
  clear h p1 q1
  go_enter Try.func28, Try.ntmps28
  go_wp2_with (first
    | (go_at_call 29; refine cr.mono ?_; clear cr; rintro e w' ⟨rfl, rfl⟩)
    | (go_at_call 19; refine cp.mono ?_; clear cp; rintro e w' ⟨rfl, rfl⟩)
    | (go_at_call 27; refine cc.mono ?_; clear cc; rintro e w' ⟨rfl, rfl⟩)
    | (go_at_call 34; refine cs1.mono ?_; clear cs1; rintro e w1 ⟨rfl, ht1, ho1⟩; have cs2 := cs2 w1 ht1)
    | (go_at_call 34; refine cs2.mono ?_; clear cs2; rintro e w2 ⟨rfl, ht2, ho2⟩))
  (try simp only [Exit.inBlock, Exit.then])
  refine bodyPost_end (results_none rfl _ _ _) rfl ?_
  exact ⟨rfl, ht2, ho1.trans ho2⟩
end Go.Proofs.Ytbhhijdpmpcdnaa

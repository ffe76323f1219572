/-
  slices.symMergeCmpFunc and what it calls, over a row of ints that are read as Fin (m + 1).
-/
import Derived.Test.YtdidahafbcddeaaSort
import Derived.Test.YtdidahafbcddeaaSym
import Derived.Sort.WalkC
import Derived.Deep.LoopGhost
import Derived.BigQuiet
import Derived.BigRegion
import Derived.Deep.DeepCutAuto
set_option linter.unusedVariables false
namespace Go.Proofs.Ytdidahafbcddeaa
open Go.RowKit Go.Shelf Go.Sort

def encF (m : Nat) : Fin (m + 1) → Value := fun i => .int .i64 (i.val : Int)
/-- the world is the base world, the row being d -/
structure SrtW (m : Nat) (w0 : World) (blk off N : Nat) (d : Array (Fin (m + 1))) (W : World) : Prop where
  size : d.size = N
  eq : ∃ n, W = (putRow (encF m) w0 blk off d).drewN n
/-- the base row -/
structure Row0 (m : Nat) (w0 : World) (blk off N : Nat) : Prop where
  row : ∃ d0 : Array (Fin (m + 1)), d0.size = N ∧ Holds (encF m) w0 blk off d0
section
variable {m blk off N : Nat} {w0 W : World} {d : Array (Fin (m + 1))}
theorem SrtW.holds (S : SrtW m w0 blk off N d W) (R : Row0 m w0 blk off N) : Holds (encF m) W blk off d := by
  obtain ⟨d0, h0, H0⟩ := R.row
  obtain ⟨n, rfl⟩ := S.eq
  have := holds_putRow (encF m) w0 blk off d0 d H0 (by rw [S.size, h0])
  exact this
theorem SrtW.cell (S : SrtW m w0 blk off N d W) (R : Row0 m w0 blk off N) {t : Nat} (ht : t < N) : W.cell? ⟨blk, off + t, none⟩ = some (.int .i64 ((d[t]!).val : Int)) := (S.holds R t (by rw [S.size]; exact ht)).1
theorem SrtW.free (S : SrtW m w0 blk off N d W) (R : Row0 m w0 blk off N) {t : Nat} (ht : t < N) : W.frozen? ⟨blk, off + t, none⟩ = false := (S.holds R t (by rw [S.size]; exact ht)).2
theorem SrtW.drewN (S : SrtW m w0 blk off N d W) (q : Nat) : SrtW m w0 blk off N d (W.drewN q) := by
  obtain ⟨n, rfl⟩ := S.eq
  exact ⟨S.size, n + q, by rw [World.drewN_drewN]⟩
theorem SrtW.swap (S : SrtW m w0 blk off N d W) {i j : Nat} (hi : i < N) (hj : j < N) {x y : Nat} (hx : (d[i]!).val = x) (hy : (d[j]!).val = y) :
    SrtW m w0 blk off N (swp d i j) ((W.setCell ⟨blk, off + i, none⟩ (.int .i64 (y : Int))).setCell ⟨blk, off + j, none⟩ (.int .i64 (x : Int))).drew := by
  obtain ⟨n, rfl⟩ := S.eq
  subst hx
  subst hy
  exact ⟨by rw [swp_size, S.size], n + 1, swap_worldC (encF m) w0 blk off d n i j (by rw [S.size]; exact hi) (by rw [S.size]; exact hj)⟩
end

set_option maxRecDepth 100000 in
set_option maxHeartbeats 800000 in
theorem sym_swapRange (m blk off cap N a b n g : Nat) (cb : Array Value) (d : Array (Fin (m + 1))) (w0 w : World) (R : Row0 m w0 blk off N) (S : SrtW m w0 blk off N d w) (h1 : a + n ≤ b) (h2 : b + n ≤ N) (hN : N ≤ 1000) :
    Calls Try.prog 72 #[.slice (some ⟨blk, off, none⟩) N cap, .int .i64 (a : Int), .int .i64 (b : Int), .int .i64 (n : Int), .func (.func g) #[] cb] w fun e w' => e = .returned (.tuple #[]) ∧ SrtW m w0 blk off N (swR d a b n) w' := by
  go_enter Try.func72, Try.ntmps72
  go_wp2
  go_loopw [10] (fun iv wr => ∃ i : Nat, i ≤ n ∧ iv = .int .i64 (i : Int) ∧ SrtW m w0 blk off N (swR d a b i) wr) (fun iv _ => n - (intOf iv).toNat)
  case atStart => exact ⟨0, Nat.zero_le _, rfl, S⟩
  case round =>
    obtain ⟨i, hi, rfl, S1⟩ := hrel
    obtain ⟨wo, rfl⟩ : ∃ x, x = wr := ⟨_, rfl⟩
    by_cases hlt : i < n
    · have i1 : (i : Int) < (n : Int) := by omega
      obtain ⟨pa, hpa⟩ : ∃ p, a + i = p := ⟨_, rfl⟩
      obtain ⟨pb, hpb⟩ : ∃ p, b + i = p := ⟨_, rfl⟩
      have ea : ((a : Int) + (i : Int)).toNat = pa := by omega
      have eb : ((b : Int) + (i : Int)).toNat = pb := by omega
      have a0 : (0 : Int) ≤ (a : Int) + (i : Int) := by omega
      have b0 : (0 : Int) ≤ (b : Int) + (i : Int) := by omega
      have a1 : (a : Int) + (i : Int) < (N : Int) := by omega
      have b1 : (b : Int) + (i : Int) < (N : Int) := by omega
      have hne : pa ≠ pb := by omega
      have c1 := S1.cell R (t := pa) (by omega)
      have c2 := S1.cell R (t := pb) (by omega)
      have f1 := S1.free R (t := pa) (by omega)
      have f2 := S1.free R (t := pb) (by omega)
      have S2 := S1.swap (i := pa) (j := pb) (by omega) (by omega) rfl rfl
      have e2 : swp (swR d a b i) pa pb = swR d a b (i + 1) := by rw [← hpa, ← hpb]; rfl
      rw [e2] at S2
      generalize ((swR d a b i)[pa]!).val = x at *
      generalize ((swR d a b i)[pb]!).val = y at *
      have HS := Lib.hid S2
      clear S1 S2 e2 hpa hpb S
      go_wp2_with fail
      go_region
      all_goals go_wp2
      go_roundw
      case rel => exact ⟨i + 1, by omega, by go_num, HS.out⟩
      case measure => simp [intOf] <;> omega
    · obtain rfl : n = i := by omega
      have i1 : ¬ (n : Int) < (n : Int) := by omega
      go_wp2
      go_end0
      exact ⟨rfl, S1⟩
end Go.Proofs.Ytdidahafbcddeaa

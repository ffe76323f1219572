/-
  pair.at.
-/
import Derived.Test.YtbhhijdpmpcdnaaPar
set_option linter.unusedVariables false
namespace Go.Proofs.Ytbhhijdpmpcdnaa
open Go.RowKit

def AtP (w : World) (d : Nat) (T : Tb) (r : AnsG ArP) (e : Ending) (w' : World) : Prop :=
  e = .returned (.tuple #[.int .u8 (r.v : Int), .int .i64 (r.e : Int)]) ∧ TabT w' d T r.a ∧ Ch w w' (T.F d)
theorem TabT.drewN {w : World} {d : Nat} {T : Tb} {a : ArP} (h : TabT w d T a) (n : Nat) : TabT (w.drewN n) d T a := h.below (below_drewN (Below.refl _ _) n)
set_option maxRecDepth 100000 in
set_option maxHeartbeats 2000000 in
theorem pair_at_7_0 (d : Nat) (h3 : 3 ≤ d) (h6 : d ≤ 6) (T : Tb) (a : ArP) (m b v pb : Nat) (hm : m ≤ 0) (w : World) (hb : b < d) (c8 : w.cell? ⟨pb, 8, none⟩ = some (.int .i64 (m : Int))) (cj : w.cell? ⟨pb, 6, none⟩ = some (.pointer (some ⟨T.h, 0, none⟩))) (hpb : pb < w.heap.size) (ht : TabT w d T a) (hl : ∀ x y, a.1 x y < 256) :
    Calls Try.prog 22 #[.pointer (some ⟨pb, 0, none⟩), .agg #[.int .i64 7, .int .i64 0, .int .i64 (b : Int), .int .u8 (v : Int)]] w (AtP w d T (mvP d a 3 (b : Int) 0)) := by
  have hbx : BoxV (w.alloc (.cells #[.int .i64 7, .int .i64 0, .int .i64 (b : Int), .int .u8 (v : Int)] 35)) w.heap.size 35 [.int .i64 7, .int .i64 0, .int .i64 (b : Int), .int .u8 (v : Int)] := BoxV.new w _ _
  have x0 := hbx.cell (j := 0) rfl; have x1 := hbx.cell (j := 1) rfl; have x2 := hbx.cell (j := 2) rfl
  have hA := ht.below ((Below.refl w.heap.size w).alloc (Nat.le_refl _) (.cells #[.int .i64 7, .int .i64 0, .int .i64 (b : Int), .int .u8 (v : Int)] 35))
  have hC : Ch w (w.alloc (.cells #[.int .i64 7, .int .i64 0, .int .i64 (b : Int), .int .u8 (v : Int)] 35)) (T.F d) := (Ch.refl _ _).alloc _
  have d8 : (w.alloc (.cells #[.int .i64 7, .int .i64 0, .int .i64 (b : Int), .int .u8 (v : Int)] 35)).cell? ⟨pb, 8, none⟩ = some (.int .i64 (m : Int)) := by rw [World.cell?_alloc_lt w _ _ hpb]; exact c8
  have dj : (w.alloc (.cells #[.int .i64 7, .int .i64 0, .int .i64 (b : Int), .int .u8 (v : Int)] 35)).cell? ⟨pb, 6, none⟩ = some (.pointer (some ⟨T.h, 0, none⟩)) := by rw [World.cell?_alloc_lt w _ _ hpb]; exact cj
  have t0 := TabD.tab hA
  have i1 : ¬ (0 : Int) < (m : Int) := by omega
  have i2 : ¬ (b : Int) < 0 := by omega
  have i3 : ¬ (d : Int) ≤ (b : Int) := by omega
  have HA := Lib.hid hA
  have HC := Lib.hid hC
  have hr12 := rowsD_is h3 h6
  by_cases hz : 0 ≤ a.2
  · have HD : Hid (mvP d a 3 (b : Int) 0 = ⟨a, 7, 0⟩) := by
      unfold Hid mvP doMv
      rw [if_neg (by omega), if_neg (by simp; omega), if_neg (by decide), if_pos rfl, if_pos hz] <;> rfl
    rw [HD.out]
    have cl := fun q => stripe_Lose T.b T.h (rowsD d) d b a.2 T.gr a.1 ((w.alloc (.cells #[.int .i64 7, .int .i64 0, .int .i64 (b : Int), .int .u8 (v : Int)] 35)).drewN q) (HA.out.drewN q) h6 hb (by omega)
    unfold LoseP at cl
    simp only [if_pos hz] at cl
    clear ht c8 cj hbx hA hC hz
    go_enter Try.func22, Try.ntmps22
    go_wp2
    go_quiet (fail)
    go_wp2
    go_quiet (fail)
    go_wp2
    go_quiet (fail)
    go_wp2_with (go_at_call 30; refine (cl _).mono ?_; rintro e w2 ⟨rfl, rfl⟩)
    go_ret2
    exact ⟨rfl, HA.out.drewN _, HC.out.drewN _⟩
  · have HD : Hid (mvP d a 3 (b : Int) 0 = ⟨(zeroTo a.1 b 0 (rowsD d), (b : Int)), 0, 0⟩) := by
      unfold Hid mvP doMv
      rw [if_neg (by omega), if_neg (by simp; omega), if_neg (by decide), if_pos rfl, if_neg hz] <;> rfl
    rw [HD.out]
    have cl := fun q => stripe_Lose T.b T.h (rowsD d) d b a.2 T.gr a.1 ((w.alloc (.cells #[.int .i64 7, .int .i64 0, .int .i64 (b : Int), .int .u8 (v : Int)] 35)).drewN q) (HA.out.drewN q) h6 hb (by omega)
    unfold LoseP at cl
    simp only [if_neg hz] at cl
    clear ht c8 cj hbx hA hC hz
    go_enter Try.func22, Try.ntmps22
    go_wp2
    go_quiet (fail)
    go_wp2
    go_quiet (fail)
    go_wp2
    go_quiet (fail)
    go_wp2_with (go_at_call 30; refine (cl _).mono ?_; rintro e w2 ⟨rfl, ht2, ho2⟩)
    go_ret2
    exact ⟨rfl, ht2, (HC.out.drewN _).trans (ho2.toCh (T := T)) (fun _ _ q => q)⟩
set_option maxRecDepth 100000 in
set_option maxHeartbeats 2000000 in
theorem pair_at_7_1 (d : Nat) (h3 : 3 ≤ d) (h6 : d ≤ 6) (T : Tb) (a : ArP) (m b v pb : Nat) (hm : m ≤ 1) (w : World) (hb : b < d) (c8 : w.cell? ⟨pb, 8, none⟩ = some (.int .i64 (m : Int))) (cj : w.cell? ⟨pb, 7, none⟩ = some (.pointer (some ⟨T.h, 0, none⟩))) (hpb : pb < w.heap.size) (ht : TabT w d T a) (hl : ∀ x y, a.1 x y < 256) :
    Calls Try.prog 22 #[.pointer (some ⟨pb, 0, none⟩), .agg #[.int .i64 7, .int .i64 1, .int .i64 (b : Int), .int .u8 (v : Int)]] w (AtP w d T (mvP d a 3 (b : Int) 0)) := by
  have hbx : BoxV (w.alloc (.cells #[.int .i64 7, .int .i64 1, .int .i64 (b : Int), .int .u8 (v : Int)] 35)) w.heap.size 35 [.int .i64 7, .int .i64 1, .int .i64 (b : Int), .int .u8 (v : Int)] := BoxV.new w _ _
  have x0 := hbx.cell (j := 0) rfl; have x1 := hbx.cell (j := 1) rfl; have x2 := hbx.cell (j := 2) rfl
  have hA := ht.below ((Below.refl w.heap.size w).alloc (Nat.le_refl _) (.cells #[.int .i64 7, .int .i64 1, .int .i64 (b : Int), .int .u8 (v : Int)] 35))
  have hC : Ch w (w.alloc (.cells #[.int .i64 7, .int .i64 1, .int .i64 (b : Int), .int .u8 (v : Int)] 35)) (T.F d) := (Ch.refl _ _).alloc _
  have d8 : (w.alloc (.cells #[.int .i64 7, .int .i64 1, .int .i64 (b : Int), .int .u8 (v : Int)] 35)).cell? ⟨pb, 8, none⟩ = some (.int .i64 (m : Int)) := by rw [World.cell?_alloc_lt w _ _ hpb]; exact c8
  have dj : (w.alloc (.cells #[.int .i64 7, .int .i64 1, .int .i64 (b : Int), .int .u8 (v : Int)] 35)).cell? ⟨pb, 7, none⟩ = some (.pointer (some ⟨T.h, 0, none⟩)) := by rw [World.cell?_alloc_lt w _ _ hpb]; exact cj
  have t0 := TabD.tab hA
  have i1 : ¬ (1 : Int) < (m : Int) := by omega
  have i2 : ¬ (b : Int) < 0 := by omega
  have i3 : ¬ (d : Int) ≤ (b : Int) := by omega
  have HA := Lib.hid hA
  have HC := Lib.hid hC
  have hr12 := rowsD_is h3 h6
  by_cases hz : 0 ≤ a.2
  · have HD : Hid (mvP d a 3 (b : Int) 0 = ⟨a, 7, 0⟩) := by
      unfold Hid mvP doMv
      rw [if_neg (by omega), if_neg (by simp; omega), if_neg (by decide), if_pos rfl, if_pos hz] <;> rfl
    rw [HD.out]
    have cl := fun q => stripe_Lose T.b T.h (rowsD d) d b a.2 T.gr a.1 ((w.alloc (.cells #[.int .i64 7, .int .i64 1, .int .i64 (b : Int), .int .u8 (v : Int)] 35)).drewN q) (HA.out.drewN q) h6 hb (by omega)
    unfold LoseP at cl
    simp only [if_pos hz] at cl
    clear ht c8 cj hbx hA hC hz
    go_enter Try.func22, Try.ntmps22
    go_wp2
    go_quiet (fail)
    go_wp2
    go_quiet (fail)
    go_wp2
    go_quiet (fail)
    go_wp2_with (go_at_call 30; refine (cl _).mono ?_; rintro e w2 ⟨rfl, rfl⟩)
    go_ret2
    exact ⟨rfl, HA.out.drewN _, HC.out.drewN _⟩
  · have HD : Hid (mvP d a 3 (b : Int) 0 = ⟨(zeroTo a.1 b 0 (rowsD d), (b : Int)), 0, 0⟩) := by
      unfold Hid mvP doMv
      rw [if_neg (by omega), if_neg (by simp; omega), if_neg (by decide), if_pos rfl, if_neg hz] <;> rfl
    rw [HD.out]
    have cl := fun q => stripe_Lose T.b T.h (rowsD d) d b a.2 T.gr a.1 ((w.alloc (.cells #[.int .i64 7, .int .i64 1, .int .i64 (b : Int), .int .u8 (v : Int)] 35)).drewN q) (HA.out.drewN q) h6 hb (by omega)
    unfold LoseP at cl
    simp only [if_neg hz] at cl
    clear ht c8 cj hbx hA hC hz
    go_enter Try.func22, Try.ntmps22
    go_wp2
    go_quiet (fail)
    go_wp2
    go_quiet (fail)
    go_wp2
    go_quiet (fail)
    go_wp2_with (go_at_call 30; refine (cl _).mono ?_; rintro e w2 ⟨rfl, ht2, ho2⟩)
    go_ret2
    exact ⟨rfl, ht2, (HC.out.drewN _).trans (ho2.toCh (T := T)) (fun _ _ q => q)⟩
set_option maxRecDepth 100000 in
set_option maxHeartbeats 2000000 in
theorem pair_at_8_0 (d : Nat) (h3 : 3 ≤ d) (h6 : d ≤ 6) (T : Tb) (a : ArP) (m b v pb : Nat) (hm : m ≤ 0) (w : World) (hb : b < d) (c8 : w.cell? ⟨pb, 8, none⟩ = some (.int .i64 (m : Int))) (cj : w.cell? ⟨pb, 6, none⟩ = some (.pointer (some ⟨T.h, 0, none⟩))) (hpb : pb < w.heap.size) (ht : TabT w d T a) (hl : ∀ x y, a.1 x y < 256) :
    Calls Try.prog 22 #[.pointer (some ⟨pb, 0, none⟩), .agg #[.int .i64 8, .int .i64 0, .int .i64 (b : Int), .int .u8 (v : Int)]] w (AtP w d T (mvP d a 4 (b : Int) 0)) := by
  have hbx : BoxV (w.alloc (.cells #[.int .i64 8, .int .i64 0, .int .i64 (b : Int), .int .u8 (v : Int)] 35)) w.heap.size 35 [.int .i64 8, .int .i64 0, .int .i64 (b : Int), .int .u8 (v : Int)] := BoxV.new w _ _
  have x0 := hbx.cell (j := 0) rfl; have x1 := hbx.cell (j := 1) rfl; have x2 := hbx.cell (j := 2) rfl
  have hA := ht.below ((Below.refl w.heap.size w).alloc (Nat.le_refl _) (.cells #[.int .i64 8, .int .i64 0, .int .i64 (b : Int), .int .u8 (v : Int)] 35))
  have hC : Ch w (w.alloc (.cells #[.int .i64 8, .int .i64 0, .int .i64 (b : Int), .int .u8 (v : Int)] 35)) (T.F d) := (Ch.refl _ _).alloc _
  have d8 : (w.alloc (.cells #[.int .i64 8, .int .i64 0, .int .i64 (b : Int), .int .u8 (v : Int)] 35)).cell? ⟨pb, 8, none⟩ = some (.int .i64 (m : Int)) := by rw [World.cell?_alloc_lt w _ _ hpb]; exact c8
  have dj : (w.alloc (.cells #[.int .i64 8, .int .i64 0, .int .i64 (b : Int), .int .u8 (v : Int)] 35)).cell? ⟨pb, 6, none⟩ = some (.pointer (some ⟨T.h, 0, none⟩)) := by rw [World.cell?_alloc_lt w _ _ hpb]; exact cj
  have t0 := TabD.tab hA
  have i1 : ¬ (0 : Int) < (m : Int) := by omega
  have i2 : ¬ (b : Int) < 0 := by omega
  have i3 : ¬ (d : Int) ≤ (b : Int) := by omega
  have HA := Lib.hid hA
  have HC := Lib.hid hC
  have hr12 := rowsD_is h3 h6
  by_cases hz : (b : Int) = a.2
  · have HD : Hid (mvP d a 4 (b : Int) 0 = ⟨(renewTo a.1 b d (rowsD d), -1), 0, 0⟩) := by
      unfold Hid mvP doMv
      rw [if_neg (by omega), if_neg (by simp; omega), if_neg (by decide), if_neg (by decide), if_pos rfl, if_pos hz] <;> rfl
    rw [HD.out]
    have cl := fun q => stripe_Renew T.b T.h (rowsD d) d b a.2 T.gr a.1 ((w.alloc (.cells #[.int .i64 8, .int .i64 0, .int .i64 (b : Int), .int .u8 (v : Int)] 35)).drewN q) (HA.out.drewN q) hl h6 hb (by omega)
    unfold RenewP at cl
    simp only [if_pos hz] at cl
    clear ht c8 cj hbx hA hC hz
    go_enter Try.func22, Try.ntmps22
    go_wp2
    go_quiet (fail)
    go_wp2
    go_quiet (fail)
    go_wp2
    go_quiet (fail)
    go_wp2_with (go_at_call 31; refine (cl _).mono ?_; rintro e w2 ⟨rfl, ht2, ho2⟩)
    go_ret2
    exact ⟨rfl, ht2, (HC.out.drewN _).trans (ho2.toCh (T := T)) (fun _ _ q => q)⟩
  · have HD : Hid (mvP d a 4 (b : Int) 0 = ⟨a, 7, 0⟩) := by
      unfold Hid mvP doMv
      rw [if_neg (by omega), if_neg (by simp; omega), if_neg (by decide), if_neg (by decide), if_pos rfl, if_neg hz] <;> rfl
    rw [HD.out]
    have cl := fun q => stripe_Renew T.b T.h (rowsD d) d b a.2 T.gr a.1 ((w.alloc (.cells #[.int .i64 8, .int .i64 0, .int .i64 (b : Int), .int .u8 (v : Int)] 35)).drewN q) (HA.out.drewN q) hl h6 hb (by omega)
    unfold RenewP at cl
    simp only [if_neg hz] at cl
    clear ht c8 cj hbx hA hC hz
    go_enter Try.func22, Try.ntmps22
    go_wp2
    go_quiet (fail)
    go_wp2
    go_quiet (fail)
    go_wp2
    go_quiet (fail)
    go_wp2_with (go_at_call 31; refine (cl _).mono ?_; rintro e w2 ⟨rfl, rfl⟩)
    go_ret2
    exact ⟨rfl, HA.out.drewN _, HC.out.drewN _⟩
set_option maxRecDepth 100000 in
set_option maxHeartbeats 2000000 in
theorem pair_at_8_1 (d : Nat) (h3 : 3 ≤ d) (h6 : d ≤ 6) (T : Tb) (a : ArP) (m b v pb : Nat) (hm : m ≤ 1) (w : World) (hb : b < d) (c8 : w.cell? ⟨pb, 8, none⟩ = some (.int .i64 (m : Int))) (cj : w.cell? ⟨pb, 7, none⟩ = some (.pointer (some ⟨T.h, 0, none⟩))) (hpb : pb < w.heap.size) (ht : TabT w d T a) (hl : ∀ x y, a.1 x y < 256) :
    Calls Try.prog 22 #[.pointer (some ⟨pb, 0, none⟩), .agg #[.int .i64 8, .int .i64 1, .int .i64 (b : Int), .int .u8 (v : Int)]] w (AtP w d T (mvP d a 4 (b : Int) 0)) := by
  have hbx : BoxV (w.alloc (.cells #[.int .i64 8, .int .i64 1, .int .i64 (b : Int), .int .u8 (v : Int)] 35)) w.heap.size 35 [.int .i64 8, .int .i64 1, .int .i64 (b : Int), .int .u8 (v : Int)] := BoxV.new w _ _
  have x0 := hbx.cell (j := 0) rfl; have x1 := hbx.cell (j := 1) rfl; have x2 := hbx.cell (j := 2) rfl
  have hA := ht.below ((Below.refl w.heap.size w).alloc (Nat.le_refl _) (.cells #[.int .i64 8, .int .i64 1, .int .i64 (b : Int), .int .u8 (v : Int)] 35))
  have hC : Ch w (w.alloc (.cells #[.int .i64 8, .int .i64 1, .int .i64 (b : Int), .int .u8 (v : Int)] 35)) (T.F d) := (Ch.refl _ _).alloc _
  have d8 : (w.alloc (.cells #[.int .i64 8, .int .i64 1, .int .i64 (b : Int), .int .u8 (v : Int)] 35)).cell? ⟨pb, 8, none⟩ = some (.int .i64 (m : Int)) := by rw [World.cell?_alloc_lt w _ _ hpb]; exact c8
  have dj : (w.alloc (.cells #[.int .i64 8, .int .i64 1, .int .i64 (b : Int), .int .u8 (v : Int)] 35)).cell? ⟨pb, 7, none⟩ = some (.pointer (some ⟨T.h, 0, none⟩)) := by rw [World.cell?_alloc_lt w _ _ hpb]; exact cj
  have t0 := TabD.tab hA
  have i1 : ¬ (1 : Int) < (m : Int) := by omega
  have i2 : ¬ (b : Int) < 0 := by omega
  have i3 : ¬ (d : Int) ≤ (b : Int) := by omega
  have HA := Lib.hid hA
  have HC := Lib.hid hC
  have hr12 := rowsD_is h3 h6
  by_cases hz : (b : Int) = a.2
  · have HD : Hid (mvP d a 4 (b : Int) 0 = ⟨(renewTo a.1 b d (rowsD d), -1), 0, 0⟩) := by
      unfold Hid mvP doMv
      rw [if_neg (by omega), if_neg (by simp; omega), if_neg (by decide), if_neg (by decide), if_pos rfl, if_pos hz] <;> rfl
    rw [HD.out]
    have cl := fun q => stripe_Renew T.b T.h (rowsD d) d b a.2 T.gr a.1 ((w.alloc (.cells #[.int .i64 8, .int .i64 1, .int .i64 (b : Int), .int .u8 (v : Int)] 35)).drewN q) (HA.out.drewN q) hl h6 hb (by omega)
    unfold RenewP at cl
    simp only [if_pos hz] at cl
    clear ht c8 cj hbx hA hC hz
    go_enter Try.func22, Try.ntmps22
    go_wp2
    go_quiet (fail)
    go_wp2
    go_quiet (fail)
    go_wp2
    go_quiet (fail)
    go_wp2_with (go_at_call 31; refine (cl _).mono ?_; rintro e w2 ⟨rfl, ht2, ho2⟩)
    go_ret2
    exact ⟨rfl, ht2, (HC.out.drewN _).trans (ho2.toCh (T := T)) (fun _ _ q => q)⟩
  · have HD : Hid (mvP d a 4 (b : Int) 0 = ⟨a, 7, 0⟩) := by
      unfold Hid mvP doMv
      rw [if_neg (by omega), if_neg (by simp; omega), if_neg (by decide), if_neg (by decide), if_pos rfl, if_neg hz] <;> rfl
    rw [HD.out]
    have cl := fun q => stripe_Renew T.b T.h (rowsD d) d b a.2 T.gr a.1 ((w.alloc (.cells #[.int .i64 8, .int .i64 1, .int .i64 (b : Int), .int .u8 (v : Int)] 35)).drewN q) (HA.out.drewN q) hl h6 hb (by omega)
    unfold RenewP at cl
    simp only [if_neg hz] at cl
    clear ht c8 cj hbx hA hC hz
    go_enter Try.func22, Try.ntmps22
    go_wp2
    go_quiet (fail)
    go_wp2
    go_quiet (fail)
    go_wp2
    go_quiet (fail)
    go_wp2_with (go_at_call 31; refine (cl _).mono ?_; rintro e w2 ⟨rfl, rfl⟩)
    go_ret2
    exact ⟨rfl, HA.out.drewN _, HC.out.drewN _⟩
set_option maxRecDepth 100000 in
set_option maxHeartbeats 2000000 in
theorem pair_at_9_0 (d : Nat) (h3 : 3 ≤ d) (h6 : d ≤ 6) (T : Tb) (a : ArP) (m b v pb : Nat) (hm : m ≤ 0) (w : World) (hb : b < 24) (c8 : w.cell? ⟨pb, 8, none⟩ = some (.int .i64 (m : Int))) (cj : w.cell? ⟨pb, 6, none⟩ = some (.pointer (some ⟨T.h, 0, none⟩))) (hpb : pb < w.heap.size) (ht : TabT w d T a) (hl : ∀ x y, a.1 x y < 256) :
    Calls Try.prog 22 #[.pointer (some ⟨pb, 0, none⟩), .agg #[.int .i64 9, .int .i64 0, .int .i64 (b : Int), .int .u8 (v : Int)]] w (AtP w d T (mvP d a 2 (b : Int) 0)) := by
  have hbx : BoxV (w.alloc (.cells #[.int .i64 9, .int .i64 0, .int .i64 (b : Int), .int .u8 (v : Int)] 35)) w.heap.size 35 [.int .i64 9, .int .i64 0, .int .i64 (b : Int), .int .u8 (v : Int)] := BoxV.new w _ _
  have x0 := hbx.cell (j := 0) rfl; have x1 := hbx.cell (j := 1) rfl; have x2 := hbx.cell (j := 2) rfl
  have hA := ht.below ((Below.refl w.heap.size w).alloc (Nat.le_refl _) (.cells #[.int .i64 9, .int .i64 0, .int .i64 (b : Int), .int .u8 (v : Int)] 35))
  have hC : Ch w (w.alloc (.cells #[.int .i64 9, .int .i64 0, .int .i64 (b : Int), .int .u8 (v : Int)] 35)) (T.F d) := (Ch.refl _ _).alloc _
  have d8 : (w.alloc (.cells #[.int .i64 9, .int .i64 0, .int .i64 (b : Int), .int .u8 (v : Int)] 35)).cell? ⟨pb, 8, none⟩ = some (.int .i64 (m : Int)) := by rw [World.cell?_alloc_lt w _ _ hpb]; exact c8
  have dj : (w.alloc (.cells #[.int .i64 9, .int .i64 0, .int .i64 (b : Int), .int .u8 (v : Int)] 35)).cell? ⟨pb, 6, none⟩ = some (.pointer (some ⟨T.h, 0, none⟩)) := by rw [World.cell?_alloc_lt w _ _ hpb]; exact cj
  have t0 := TabD.tab hA
  have i1 : ¬ (0 : Int) < (m : Int) := by omega
  have i2 : ¬ (b : Int) < 0 := by omega
  have i3 : ¬ (24 : Int) ≤ (b : Int) := by omega
  have HA := Lib.hid hA
  have HC := Lib.hid hC
  have HD : Hid (mvP d a 2 (b : Int) 0 = ⟨a, 0, readD a.1 a.2 d b⟩) := by
    unfold Hid mvP doMv
    rw [if_neg (by omega), if_neg (by simp; omega)]
    simp
  rw [HD.out]
  have cr := fun q => stripe_Read T.b T.h d b a.2 T.gr a.1 ((w.alloc (.cells #[.int .i64 9, .int .i64 0, .int .i64 (b : Int), .int .u8 (v : Int)] 35)).drewN q) (HA.out.drewN q) hl h3 h6 hb
  clear ht c8 cj hbx hA hC
  go_enter Try.func22, Try.ntmps22
  go_wp2
  go_quiet (fail)
  go_wp2
  go_quiet (fail)
  go_wp2_with (go_at_call 29; refine (cr _).mono ?_; rintro e w2 ⟨rfl, rfl⟩)
  go_ret2
  exact ⟨rfl, HA.out.drewN _, HC.out.drewN _⟩
set_option maxRecDepth 100000 in
set_option maxHeartbeats 2000000 in
theorem pair_at_9_1 (d : Nat) (h3 : 3 ≤ d) (h6 : d ≤ 6) (T : Tb) (a : ArP) (m b v pb : Nat) (hm : m ≤ 1) (w : World) (hb : b < 24) (c8 : w.cell? ⟨pb, 8, none⟩ = some (.int .i64 (m : Int))) (cj : w.cell? ⟨pb, 7, none⟩ = some (.pointer (some ⟨T.h, 0, none⟩))) (hpb : pb < w.heap.size) (ht : TabT w d T a) (hl : ∀ x y, a.1 x y < 256) :
    Calls Try.prog 22 #[.pointer (some ⟨pb, 0, none⟩), .agg #[.int .i64 9, .int .i64 1, .int .i64 (b : Int), .int .u8 (v : Int)]] w (AtP w d T (mvP d a 2 (b : Int) 0)) := by
  have hbx : BoxV (w.alloc (.cells #[.int .i64 9, .int .i64 1, .int .i64 (b : Int), .int .u8 (v : Int)] 35)) w.heap.size 35 [.int .i64 9, .int .i64 1, .int .i64 (b : Int), .int .u8 (v : Int)] := BoxV.new w _ _
  have x0 := hbx.cell (j := 0) rfl; have x1 := hbx.cell (j := 1) rfl; have x2 := hbx.cell (j := 2) rfl
  have hA := ht.below ((Below.refl w.heap.size w).alloc (Nat.le_refl _) (.cells #[.int .i64 9, .int .i64 1, .int .i64 (b : Int), .int .u8 (v : Int)] 35))
  have hC : Ch w (w.alloc (.cells #[.int .i64 9, .int .i64 1, .int .i64 (b : Int), .int .u8 (v : Int)] 35)) (T.F d) := (Ch.refl _ _).alloc _
  have d8 : (w.alloc (.cells #[.int .i64 9, .int .i64 1, .int .i64 (b : Int), .int .u8 (v : Int)] 35)).cell? ⟨pb, 8, none⟩ = some (.int .i64 (m : Int)) := by rw [World.cell?_alloc_lt w _ _ hpb]; exact c8
  have dj : (w.alloc (.cells #[.int .i64 9, .int .i64 1, .int .i64 (b : Int), .int .u8 (v : Int)] 35)).cell? ⟨pb, 7, none⟩ = some (.pointer (some ⟨T.h, 0, none⟩)) := by rw [World.cell?_alloc_lt w _ _ hpb]; exact cj
  have t0 := TabD.tab hA
  have i1 : ¬ (1 : Int) < (m : Int) := by omega
  have i2 : ¬ (b : Int) < 0 := by omega
  have i3 : ¬ (24 : Int) ≤ (b : Int) := by omega
  have HA := Lib.hid hA
  have HC := Lib.hid hC
  have HD : Hid (mvP d a 2 (b : Int) 0 = ⟨a, 0, readD a.1 a.2 d b⟩) := by
    unfold Hid mvP doMv
    rw [if_neg (by omega), if_neg (by simp; omega)]
    simp
  rw [HD.out]
  have cr := fun q => stripe_Read T.b T.h d b a.2 T.gr a.1 ((w.alloc (.cells #[.int .i64 9, .int .i64 1, .int .i64 (b : Int), .int .u8 (v : Int)] 35)).drewN q) (HA.out.drewN q) hl h3 h6 hb
  clear ht c8 cj hbx hA hC
  go_enter Try.func22, Try.ntmps22
  go_wp2
  go_quiet (fail)
  go_wp2
  go_quiet (fail)
  go_wp2_with (go_at_call 29; refine (cr _).mono ?_; rintro e w2 ⟨rfl, rfl⟩)
  go_ret2
  exact ⟨rfl, HA.out.drewN _, HC.out.drewN _⟩
end Go.Proofs.Ytbhhijdpmpcdnaa

/-
  pair.at, any step; pair.step.
-/
import Derived.Test.YtbhhijdpmpcdnaaPau
set_option linter.unusedVariables false
namespace Go.Proofs.Ytbhhijdpmpcdnaa
open Go.RowKit

def AtE (w : World) (o : Obj) (e : Ending) (w' : World) : Prop := e = .returned (.tuple #[.int .u8 0, .int .i64 2]) ∧ ∃ m, w' = (w.alloc o).drewN m
set_option maxRecDepth 100000 in
set_option maxHeartbeats 2000000 in
theorem pair_at_no (pb m : Nat) (kind site block : Int) (v : Nat) (w : World) (h : site < (m : Int) ∨ 1 < site ∨ block < 0) (c8 : w.cell? ⟨pb, 8, none⟩ = some (.int .i64 (m : Int))) (hpb : pb < w.heap.size) :
    Calls Try.prog 22 #[.pointer (some ⟨pb, 0, none⟩), .agg #[.int .i64 kind, .int .i64 site, .int .i64 block, .int .u8 (v : Int)]] w (AtE w (.cells #[.int .i64 kind, .int .i64 site, .int .i64 block, .int .u8 (v : Int)] 35)) := by
  have hbx : BoxV (w.alloc (.cells #[.int .i64 kind, .int .i64 site, .int .i64 block, .int .u8 (v : Int)] 35)) w.heap.size 35 [.int .i64 kind, .int .i64 site, .int .i64 block, .int .u8 (v : Int)] := BoxV.new w _ _
  have x1 := hbx.cell (j := 1) rfl; have x2 := hbx.cell (j := 2) rfl
  have d8 : (w.alloc (.cells #[.int .i64 kind, .int .i64 site, .int .i64 block, .int .u8 (v : Int)] 35)).cell? ⟨pb, 8, none⟩ = some (.int .i64 (m : Int)) := by rw [World.cell?_alloc_lt w _ _ hpb]; exact c8
  clear hbx c8
  by_cases h1 : site < (m : Int)
  · clear h
    go_enter Try.func22, Try.ntmps22
    go_wp2
    go_quiet (fail)
    go_wp2
    go_ret2
    exact ⟨rfl, _, rfl⟩
  · by_cases h2 : 1 < site
    · clear h
      go_enter Try.func22, Try.ntmps22
      go_wp2
      go_quiet (fail)
      go_wp2
      go_ret2
      exact ⟨rfl, _, rfl⟩
    · have h3 : block < 0 := by omega
      clear h
      go_enter Try.func22, Try.ntmps22
      go_wp2
      go_quiet (fail)
      go_wp2
      go_ret2
      exact ⟨rfl, _, rfl⟩
set_option maxRecDepth 100000 in
set_option maxHeartbeats 2000000 in
theorem pair_at_far9_0 (d : Nat) (T : Tb) (a : ArP) (pb m : Nat) (hm : m ≤ 0) (b v : Nat) (w : World) (hb : 24 ≤ b) (c8 : w.cell? ⟨pb, 8, none⟩ = some (.int .i64 (m : Int))) (cj : w.cell? ⟨pb, 6, none⟩ = some (.pointer (some ⟨T.h, 0, none⟩))) (hpb : pb < w.heap.size) (ht : TabT w d T a) :
    Calls Try.prog 22 #[.pointer (some ⟨pb, 0, none⟩), .agg #[.int .i64 9, .int .i64 0, .int .i64 (b : Int), .int .u8 (v : Int)]] w (AtE w (.cells #[.int .i64 9, .int .i64 0, .int .i64 (b : Int), .int .u8 (v : Int)] 35)) := by
  have hbx : BoxV (w.alloc (.cells #[.int .i64 9, .int .i64 0, .int .i64 (b : Int), .int .u8 (v : Int)] 35)) w.heap.size 35 [.int .i64 9, .int .i64 0, .int .i64 (b : Int), .int .u8 (v : Int)] := BoxV.new w _ _
  have x0 := hbx.cell (j := 0) rfl; have x1 := hbx.cell (j := 1) rfl; have x2 := hbx.cell (j := 2) rfl
  have d8 : (w.alloc (.cells #[.int .i64 9, .int .i64 0, .int .i64 (b : Int), .int .u8 (v : Int)] 35)).cell? ⟨pb, 8, none⟩ = some (.int .i64 (m : Int)) := by rw [World.cell?_alloc_lt w _ _ hpb]; exact c8
  have dj : (w.alloc (.cells #[.int .i64 9, .int .i64 0, .int .i64 (b : Int), .int .u8 (v : Int)] 35)).cell? ⟨pb, 6, none⟩ = some (.pointer (some ⟨T.h, 0, none⟩)) := by rw [World.cell?_alloc_lt w _ _ hpb]; exact cj
  have t0 := TabD.tab (ht.below ((Below.refl w.heap.size w).alloc (Nat.le_refl _) (.cells #[.int .i64 9, .int .i64 0, .int .i64 (b : Int), .int .u8 (v : Int)] 35)))
  have i1 : ¬ (0 : Int) < (m : Int) := by omega
  have i2 : ¬ (b : Int) < 0 := by omega
  have i3 : (24 : Int) ≤ (b : Int) := by omega
  clear hbx c8 cj ht
  go_enter Try.func22, Try.ntmps22
  go_wp2
  go_quiet (fail)
  go_wp2
  go_quiet (fail)
  go_wp2
  go_ret2
  exact ⟨rfl, _, by first | rfl | rw [World.drewN_drewN]⟩
set_option maxRecDepth 100000 in
set_option maxHeartbeats 2000000 in
theorem pair_at_far0_0 (d : Nat) (T : Tb) (a : ArP) (pb m : Nat) (hm : m ≤ 0) (kind : Int) (hk : Hid (kind ≠ 9)) (tk : (kind == 9) = false) (b v : Nat) (w : World) (hb : d ≤ b) (c8 : w.cell? ⟨pb, 8, none⟩ = some (.int .i64 (m : Int))) (cj : w.cell? ⟨pb, 6, none⟩ = some (.pointer (some ⟨T.h, 0, none⟩))) (hpb : pb < w.heap.size) (ht : TabT w d T a) :
    Calls Try.prog 22 #[.pointer (some ⟨pb, 0, none⟩), .agg #[.int .i64 kind, .int .i64 0, .int .i64 (b : Int), .int .u8 (v : Int)]] w (AtE w (.cells #[.int .i64 kind, .int .i64 0, .int .i64 (b : Int), .int .u8 (v : Int)] 35)) := by
  have hbx : BoxV (w.alloc (.cells #[.int .i64 kind, .int .i64 0, .int .i64 (b : Int), .int .u8 (v : Int)] 35)) w.heap.size 35 [.int .i64 kind, .int .i64 0, .int .i64 (b : Int), .int .u8 (v : Int)] := BoxV.new w _ _
  have x0 := hbx.cell (j := 0) rfl; have x1 := hbx.cell (j := 1) rfl; have x2 := hbx.cell (j := 2) rfl
  have d8 : (w.alloc (.cells #[.int .i64 kind, .int .i64 0, .int .i64 (b : Int), .int .u8 (v : Int)] 35)).cell? ⟨pb, 8, none⟩ = some (.int .i64 (m : Int)) := by rw [World.cell?_alloc_lt w _ _ hpb]; exact c8
  have dj : (w.alloc (.cells #[.int .i64 kind, .int .i64 0, .int .i64 (b : Int), .int .u8 (v : Int)] 35)).cell? ⟨pb, 6, none⟩ = some (.pointer (some ⟨T.h, 0, none⟩)) := by rw [World.cell?_alloc_lt w _ _ hpb]; exact cj
  have t0 := TabD.tab (ht.below ((Below.refl w.heap.size w).alloc (Nat.le_refl _) (.cells #[.int .i64 kind, .int .i64 0, .int .i64 (b : Int), .int .u8 (v : Int)] 35)))
  have i1 : ¬ (0 : Int) < (m : Int) := by omega
  have i2 : ¬ (b : Int) < 0 := by omega
  have i3 : (d : Int) ≤ (b : Int) := by omega
  clear hbx c8 cj ht
  go_enter Try.func22, Try.ntmps22
  go_wp2
  go_quiet (fail)
  go_wp2
  go_quiet (fail)
  go_wp2
  go_quiet (fail)
  go_wp2
  go_ret2
  exact ⟨rfl, _, by first | rfl | rw [World.drewN_drewN]⟩
set_option maxRecDepth 100000 in
set_option maxHeartbeats 2000000 in
theorem pair_at_far9_1 (d : Nat) (T : Tb) (a : ArP) (pb m : Nat) (hm : m ≤ 1) (b v : Nat) (w : World) (hb : 24 ≤ b) (c8 : w.cell? ⟨pb, 8, none⟩ = some (.int .i64 (m : Int))) (cj : w.cell? ⟨pb, 7, none⟩ = some (.pointer (some ⟨T.h, 0, none⟩))) (hpb : pb < w.heap.size) (ht : TabT w d T a) :
    Calls Try.prog 22 #[.pointer (some ⟨pb, 0, none⟩), .agg #[.int .i64 9, .int .i64 1, .int .i64 (b : Int), .int .u8 (v : Int)]] w (AtE w (.cells #[.int .i64 9, .int .i64 1, .int .i64 (b : Int), .int .u8 (v : Int)] 35)) := by
  have hbx : BoxV (w.alloc (.cells #[.int .i64 9, .int .i64 1, .int .i64 (b : Int), .int .u8 (v : Int)] 35)) w.heap.size 35 [.int .i64 9, .int .i64 1, .int .i64 (b : Int), .int .u8 (v : Int)] := BoxV.new w _ _
  have x0 := hbx.cell (j := 0) rfl; have x1 := hbx.cell (j := 1) rfl; have x2 := hbx.cell (j := 2) rfl
  have d8 : (w.alloc (.cells #[.int .i64 9, .int .i64 1, .int .i64 (b : Int), .int .u8 (v : Int)] 35)).cell? ⟨pb, 8, none⟩ = some (.int .i64 (m : Int)) := by rw [World.cell?_alloc_lt w _ _ hpb]; exact c8
  have dj : (w.alloc (.cells #[.int .i64 9, .int .i64 1, .int .i64 (b : Int), .int .u8 (v : Int)] 35)).cell? ⟨pb, 7, none⟩ = some (.pointer (some ⟨T.h, 0, none⟩)) := by rw [World.cell?_alloc_lt w _ _ hpb]; exact cj
  have t0 := TabD.tab (ht.below ((Below.refl w.heap.size w).alloc (Nat.le_refl _) (.cells #[.int .i64 9, .int .i64 1, .int .i64 (b : Int), .int .u8 (v : Int)] 35)))
  have i1 : ¬ (1 : Int) < (m : Int) := by omega
  have i2 : ¬ (b : Int) < 0 := by omega
  have i3 : (24 : Int) ≤ (b : Int) := by omega
  clear hbx c8 cj ht
  go_enter Try.func22, Try.ntmps22
  go_wp2
  go_quiet (fail)
  go_wp2
  go_quiet (fail)
  go_wp2
  go_ret2
  exact ⟨rfl, _, by first | rfl | rw [World.drewN_drewN]⟩
set_option maxRecDepth 100000 in
set_option maxHeartbeats 2000000 in
theorem pair_at_far0_1 (d : Nat) (T : Tb) (a : ArP) (pb m : Nat) (hm : m ≤ 1) (kind : Int) (hk : Hid (kind ≠ 9)) (tk : (kind == 9) = false) (b v : Nat) (w : World) (hb : d ≤ b) (c8 : w.cell? ⟨pb, 8, none⟩ = some (.int .i64 (m : Int))) (cj : w.cell? ⟨pb, 7, none⟩ = some (.pointer (some ⟨T.h, 0, none⟩))) (hpb : pb < w.heap.size) (ht : TabT w d T a) :
    Calls Try.prog 22 #[.pointer (some ⟨pb, 0, none⟩), .agg #[.int .i64 kind, .int .i64 1, .int .i64 (b : Int), .int .u8 (v : Int)]] w (AtE w (.cells #[.int .i64 kind, .int .i64 1, .int .i64 (b : Int), .int .u8 (v : Int)] 35)) := by
  have hbx : BoxV (w.alloc (.cells #[.int .i64 kind, .int .i64 1, .int .i64 (b : Int), .int .u8 (v : Int)] 35)) w.heap.size 35 [.int .i64 kind, .int .i64 1, .int .i64 (b : Int), .int .u8 (v : Int)] := BoxV.new w _ _
  have x0 := hbx.cell (j := 0) rfl; have x1 := hbx.cell (j := 1) rfl; have x2 := hbx.cell (j := 2) rfl
  have d8 : (w.alloc (.cells #[.int .i64 kind, .int .i64 1, .int .i64 (b : Int), .int .u8 (v : Int)] 35)).cell? ⟨pb, 8, none⟩ = some (.int .i64 (m : Int)) := by rw [World.cell?_alloc_lt w _ _ hpb]; exact c8
  have dj : (w.alloc (.cells #[.int .i64 kind, .int .i64 1, .int .i64 (b : Int), .int .u8 (v : Int)] 35)).cell? ⟨pb, 7, none⟩ = some (.pointer (some ⟨T.h, 0, none⟩)) := by rw [World.cell?_alloc_lt w _ _ hpb]; exact cj
  have t0 := TabD.tab (ht.below ((Below.refl w.heap.size w).alloc (Nat.le_refl _) (.cells #[.int .i64 kind, .int .i64 1, .int .i64 (b : Int), .int .u8 (v : Int)] 35)))
  have i1 : ¬ (1 : Int) < (m : Int) := by omega
  have i2 : ¬ (b : Int) < 0 := by omega
  have i3 : (d : Int) ≤ (b : Int) := by omega
  clear hbx c8 cj ht
  go_enter Try.func22, Try.ntmps22
  go_wp2
  go_quiet (fail)
  go_wp2
  go_quiet (fail)
  go_wp2
  go_quiet (fail)
  go_wp2
  go_ret2
  exact ⟨rfl, _, by first | rfl | rw [World.drewN_drewN]⟩

theorem drewN_ch {w : World} {o : Obj} (F : Nat → Prop) (m : Nat) : Ch w ((w.alloc o).drewN m) F := ((Ch.refl w F).alloc o).drewN m
section
variable (B pb d mode : Nat) (WV : Value) (T0 T1 : Tb) (t : PrT ArP) (x : StS) (w : World)
theorem pair_at (h : PrR w B pb WV d mode T0 T1 t) (n : Nat) (hok : PrOk t n) (h3 : 3 ≤ d) (h6 : d ≤ 6) (k7 : 7 ≤ x.kind) (k9 : x.kind ≤ 9) :
    Calls Try.prog 22 #[.pointer (some ⟨pb, 0, none⟩), stV x] w (StepP w B pb WV d mode T0 T1 t (atG (mvP d) d t x) (fun e v => .tuple #[.int .u8 (v : Int), .int .i64 (e : Int)])) := by
  obtain ⟨kind, site, block, v⟩ := x
  unfold stV
  simp only at k7 k9 ⊢
  have c8 := h.line.cX (j := 2) rfl
  have c6 := h.line.cX (j := 0) rfl
  have c7 := h.line.cX (j := 1) rfl
  have hpb := h.line.lt
  have err : ∀ o, AtE w o = fun e w' => AtE w o e w' := fun _ => rfl
  have no : atG (mvP d) d t ⟨kind, site, block, v⟩ = { t with outs := t.outs ++ [(2, 0)] } → ∀ o e w', AtE w o e w' → StepP w B pb WV d mode T0 T1 t (atG (mvP d) d t ⟨kind, site, block, v⟩) (fun e v => .tuple #[.int .u8 (v : Int), .int .i64 (e : Int)]) e w' := by
    rintro hG o e w' ⟨rfl, m, rfl⟩
    rw [hG]
    exact ⟨2, 0, WV, rfl, rfl, ((h.alloc o).drewN m).outs _, drewN_ch _ m⟩
  by_cases h1 : site < (t.main : Int) ∨ 1 < site ∨ block < 0
  · exact (pair_at_no pb t.main kind site block v w h1 c8 hpb).mono fun e w' hh => no (by unfold atG; rw [if_pos (by simp only; omega)]) _ e w' hh
  · obtain ⟨b, rfl⟩ : ∃ b : Nat, block = (b : Int) := ⟨block.toNat, by omega⟩
    by_cases hfar : manyG d kind ≤ (b : Int)
    · have hG : atG (mvP d) d t ⟨kind, site, (b : Int), v⟩ = { t with outs := t.outs ++ [(2, 0)] } := by unfold atG; rw [if_pos (by simp only; exact .inr (.inr (.inr hfar)))]
      rcases (by omega : site = 0 ∨ site = 1) with rfl | rfl
      · by_cases hk : kind = 9
        · subst hk
          exact (pair_at_far9_0 d T0 t.a0 pb t.main (by omega) b v w (by simp [manyG] at hfar; omega) c8 c6 hpb h.tab0).mono fun e w' hh => no hG _ e w' hh
        · exact (pair_at_far0_0 d T0 t.a0 pb t.main (by omega) kind hk (by simpa using hk) b v w (by simp [manyG, hk] at hfar; omega) c8 c6 hpb h.tab0).mono fun e w' hh => no hG _ e w' hh
      · by_cases hk : kind = 9
        · subst hk
          exact (pair_at_far9_1 d T1 t.a1 pb t.main (by omega) b v w (by simp [manyG] at hfar; omega) c8 c7 hpb h.tab1).mono fun e w' hh => no hG _ e w' hh
        · exact (pair_at_far0_1 d T1 t.a1 pb t.main (by omega) kind hk (by simpa using hk) b v w (by simp [manyG, hk] at hfar; omega) c8 c7 hpb h.tab1).mono fun e w' hh => no hG _ e w' hh
    · rcases (by omega : site = 0 ∨ site = 1) with rfl | rfl
      · have hG : atG (mvP d) d t ⟨kind, 0, (b : Int), v⟩ = { t with outs := t.outs ++ [((mvP d t.a0 (atK kind) (b : Int) 0).e, (mvP d t.a0 (atK kind) (b : Int) 0).v)], a0 := (mvP d t.a0 (atK kind) (b : Int) 0).a } := by
          unfold atG; rw [if_neg (by simp only; omega), if_pos rfl]
        have ok : ∀ e w', AtP w d T0 (mvP d t.a0 (atK kind) (b : Int) 0) e w' → StepP w B pb WV d mode T0 T1 t (atG (mvP d) d t ⟨kind, 0, (b : Int), v⟩) (fun e v => .tuple #[.int .u8 (v : Int), .int .i64 (e : Int)]) e w' := by
          rintro e w' ⟨rfl, ht, hc⟩
          rw [hG]
          exact ⟨_, _, WV, rfl, rfl, (h.ch0 ht hc (mvP_lt h.lt0 _ _ (by omega))).outs _, hc.imp (fun b _ q => .inr (.inr (.inl q)))⟩
        rcases (by omega : kind = 7 ∨ kind = 8 ∨ kind = 9) with rfl | rfl | rfl
        · exact (pair_at_7_0 d h3 h6 T0 t.a0 t.main b v pb (by omega) w (by simp [manyG] at hfar; omega) c8 c6 hpb h.tab0 h.lt0).mono ok
        · exact (pair_at_8_0 d h3 h6 T0 t.a0 t.main b v pb (by omega) w (by simp [manyG] at hfar; omega) c8 c6 hpb h.tab0 h.lt0).mono ok
        · exact (pair_at_9_0 d h3 h6 T0 t.a0 t.main b v pb (by omega) w (by simp [manyG] at hfar; omega) c8 c6 hpb h.tab0 h.lt0).mono ok
      · have hG : atG (mvP d) d t ⟨kind, 1, (b : Int), v⟩ = { t with outs := t.outs ++ [((mvP d t.a1 (atK kind) (b : Int) 0).e, (mvP d t.a1 (atK kind) (b : Int) 0).v)], a1 := (mvP d t.a1 (atK kind) (b : Int) 0).a } := by
          unfold atG; rw [if_neg (by simp only; omega), if_neg (by simp)]
        have ok : ∀ e w', AtP w d T1 (mvP d t.a1 (atK kind) (b : Int) 0) e w' → StepP w B pb WV d mode T0 T1 t (atG (mvP d) d t ⟨kind, 1, (b : Int), v⟩) (fun e v => .tuple #[.int .u8 (v : Int), .int .i64 (e : Int)]) e w' := by
          rintro e w' ⟨rfl, ht, hc⟩
          rw [hG]
          exact ⟨_, _, WV, rfl, rfl, (h.ch1 ht hc (mvP_lt h.lt1 _ _ (by omega))).outs _, hc.imp (fun b _ q => .inr (.inr (.inr q)))⟩
        rcases (by omega : kind = 7 ∨ kind = 8 ∨ kind = 9) with rfl | rfl | rfl
        · exact (pair_at_7_1 d h3 h6 T1 t.a1 t.main b v pb (by omega) w (by simp [manyG] at hfar; omega) c8 c7 hpb h.tab1 h.lt1).mono ok
        · exact (pair_at_8_1 d h3 h6 T1 t.a1 t.main b v pb (by omega) w (by simp [manyG] at hfar; omega) c8 c7 hpb h.tab1 h.lt1).mono ok
        · exact (pair_at_9_1 d h3 h6 T1 t.a1 t.main b v pb (by omega) w (by simp [manyG] at hfar; omega) c8 c7 hpb h.tab1 h.lt1).mono ok
end
end Go.Proofs.Ytbhhijdpmpcdnaa

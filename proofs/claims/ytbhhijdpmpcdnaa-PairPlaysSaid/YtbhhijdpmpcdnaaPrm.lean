/-
  The law PairPlays.
-/
import Derived.Test.YtbhhijdpmpcdnaaPrl
import Derived.Test.YtbhhijdpmpcdnaaShlb
import Derived.Test.YtbhhijdpmpcdnaaPtw
import Derived.Test.YtbhhijdpmpcdnaaArs
set_option linter.unusedVariables false
namespace Go.Proofs.Ytbhhijdpmpcdnaa
open Go.RowKit

def PairZ (w : World) (z : Int) (e : Ending) (w' : World) : Prop := e = .returned (.tuple #[.agg #[.slice none 0 0, .int .i64 0, .int .i64 0], .int .i64 z]) ∧ Below w.heap.size w w'
set_option maxHeartbeats 1600000 in
theorem pair_Play_z (mode d : Int) (A : Option Addr) (n c : Nat) (w : World) (z : Int) (h : ((mode < 1 ∨ 3 < mode) ∧ z = 6) ∨ ((1 ≤ mode ∧ mode ≤ 3 ∧ (d < 3 ∨ 6 < d)) ∧ z = 4) ∨ ((1 ≤ mode ∧ mode ≤ 3 ∧ 3 ≤ d ∧ d ≤ 6 ∧ 100 < n) ∧ z = 1)) :
    Calls Try.prog 7 #[.int .i64 mode, .int .i64 d, .slice A n c] w (PairZ w z) := by
  rcases h with ⟨h, rfl⟩ | ⟨⟨m1, m3, hd⟩, rfl⟩ | ⟨⟨m1, m3, h3, h6, hn⟩, rfl⟩
  · by_cases h1 : mode < 1
    · clear h
      go_enter Try.func7, Try.ntmps7
      go_wp2
      refine bodyPost_ret (v := .tuple #[.agg #[.slice none 0 0, .int .i64 0, .int .i64 0], .int .i64 6]) (by simp [results, Try.f7, go_sem]) rfl ⟨rfl, ?_⟩
      exact (Below.refl _ _).alloc (Nat.le_refl _) _
    · have h3 : 3 < mode := by omega
      clear h
      go_enter Try.func7, Try.ntmps7
      go_wp2
      refine bodyPost_ret (v := .tuple #[.agg #[.slice none 0 0, .int .i64 0, .int .i64 0], .int .i64 6]) (by simp [results, Try.f7, go_sem]) rfl ⟨rfl, ?_⟩
      exact (Below.refl _ _).alloc (Nat.le_refl _) _
  · have h1 : ¬ mode < 1 := by omega
    have h3 : ¬ 3 < mode := by omega
    have cp := fun W => stripe_Place d 0 0 0 4 W (by unfold Hid placeRes3; rw [if_pos hd])
    clear hd m1 m3
    go_enter Try.func7, Try.ntmps7
    go_wp2_with (go_at_call 13; refine (cp _).mono ?_; clear cp; rintro e w' ⟨rfl, rfl⟩)
    refine bodyPost_ret (v := .tuple #[.agg #[.slice none 0 0, .int .i64 0, .int .i64 0], .int .i64 4]) (by simp [results, Try.f7, go_sem]) rfl ⟨rfl, ?_⟩
    exact (Below.refl _ _).alloc (Nat.le_refl _) _
  · have h1 : ¬ mode < 1 := by omega
    have h3' : ¬ 3 < mode := by omega
    obtain ⟨px, py, hp⟩ : ∃ x y, placeRes3 d 0 = (x, y, 0) := by
      unfold placeRes3
      rw [if_neg (by omega), if_neg (by omega)]
      exact ⟨_, _, rfl⟩
    have cp := fun W => stripe_Place d 0 px py 0 W hp
    have i0 : (100 : Int) < (n : Int) := by omega
    clear hp hn m1 m3
    go_enter Try.func7, Try.ntmps7
    go_wp2_with (go_at_call 13; refine (cp _).mono ?_; clear cp; rintro e w' ⟨rfl, rfl⟩)
    refine bodyPost_ret (v := .tuple #[.agg #[.slice none 0 0, .int .i64 0, .int .i64 0], .int .i64 1]) (by simp [results, Try.f7, go_sem]) rfl ⟨rfl, ?_⟩
    exact (Below.refl _ _).alloc (Nat.le_refl _) _
theorem dones_zero (W : World) : Calls Try.prog 11 #[.slice none 0 0, .slice none 0 0] W (RetQ W (.bool true)) :=
  ref_Dones none none 0 0 0 [] W (B := 0) (B' := 0) ⟨rfl, fun h => absurd h (by omega)⟩ ⟨rfl, fun h => absurd h (by omega)⟩ (by omega)
set_option maxHeartbeats 1600000 in
theorem pair_law_err (mode d : Int) (A : Option Addr) (n c : Nat) (w : World) (h : ¬ (1 ≤ mode ∧ mode ≤ 3 ∧ 3 ≤ d ∧ d ≤ 6 ∧ n ≤ 100)) :
    Calls Try.prog 3 #[.int .i64 mode, .int .i64 d, .slice A n c] w (LawTrue w) := by
  have ha := fun W : World => (show BoxV (W.alloc (.cells #[.slice none 0 0, .int .i64 0, .int .i64 0] 25)) W.heap.size 25 [.slice none 0 0, .int .i64 0, .int .i64 0] from BoxV.new W _ _)
  have hz := fun W : World => (show BoxV ((W.alloc (.cells #[.slice none 0 0, .int .i64 0, .int .i64 0] 25)).alloc (.cells #[.slice none 0 0, .int .i64 0, .int .i64 0] 25)) (W.heap.size + 1) 25 [.slice none 0 0, .int .i64 0, .int .i64 0] from by have := BoxV.new (W.alloc (.cells #[.slice none 0 0, .int .i64 0, .int .i64 0] 25)) [.slice none 0 0, .int .i64 0, .int .i64 0] 25; simpa using this)
  by_cases hm : mode < 1 ∨ 3 < mode
  · have c2 := fun W => law_modeCheck mode 6 W (by simp [Hid, modeErr, hm])
    have c1 := pair_Play_z mode d A n c w 6 (.inl ⟨hm, rfl⟩)
    clear h hm
    go_enter Try.func3, Try.ntmps3
    go_wp2_with (first
      | (go_at_call 7; refine c1.mono ?_; clear c1; rintro e w1 ⟨rfl, hb1⟩; have ha1 := (ha w1).alloc (.cells #[.slice none 0 0, .int .i64 0, .int .i64 0] 25); have hz1 := hz w1; have ac0 := ha1.cell (j := 0) rfl; have ac1 := ha1.cell (j := 1) rfl; have ac2 := ha1.cell (j := 2) rfl; have zc0 := hz1.cell (j := 0) rfl; have zc1 := hz1.cell (j := 1) rfl; have zc2 := hz1.cell (j := 2) rfl; clear ha hz)
      | (go_at_call 8; refine (c2 _).mono ?_; clear c2; rintro e w' ⟨rfl, rfl⟩)
      | (go_at_call 9; refine (c3 _).mono ?_; clear c3; rintro e w' ⟨rfl, rfl⟩)
      | (go_at_call 11; refine (dones_zero _).mono ?_; rintro e w2 ⟨rfl, q, rfl⟩))
    go_ret
    exact ⟨rfl, below_drewN ((hb1.alloc hb1.size _).alloc (by have := hb1.size; simp; omega) _) _⟩
  by_cases hd : d < 3 ∨ 6 < d
  · have c2 := fun W => law_modeCheck mode 0 W (by unfold Hid modeErr; rw [if_neg hm])
    have c3 := fun W => law_discs d 4 W (by simp [Hid, discsErr, hd])
    have c1 := pair_Play_z mode d A n c w 4 (.inr (.inl ⟨⟨by omega, by omega, hd⟩, rfl⟩))
    clear h hm hd
    go_enter Try.func3, Try.ntmps3
    go_wp2_with (first
      | (go_at_call 7; refine c1.mono ?_; clear c1; rintro e w1 ⟨rfl, hb1⟩; have ha1 := (ha w1).alloc (.cells #[.slice none 0 0, .int .i64 0, .int .i64 0] 25); have hz1 := hz w1; have ac0 := ha1.cell (j := 0) rfl; have ac1 := ha1.cell (j := 1) rfl; have ac2 := ha1.cell (j := 2) rfl; have zc0 := hz1.cell (j := 0) rfl; have zc1 := hz1.cell (j := 1) rfl; have zc2 := hz1.cell (j := 2) rfl; clear ha hz)
      | (go_at_call 8; refine (c2 _).mono ?_; clear c2; rintro e w' ⟨rfl, rfl⟩)
      | (go_at_call 9; refine (c3 _).mono ?_; clear c3; rintro e w' ⟨rfl, rfl⟩)
      | (go_at_call 11; refine (dones_zero _).mono ?_; rintro e w2 ⟨rfl, q, rfl⟩))
    go_ret
    exact ⟨rfl, below_drewN ((hb1.alloc hb1.size _).alloc (by have := hb1.size; simp; omega) _) _⟩
  · have c2 := fun W => law_modeCheck mode 0 W (by unfold Hid modeErr; rw [if_neg hm])
    have c3 := fun W => law_discs d 0 W (by unfold Hid discsErr; rw [if_neg hd])
    have i0 : (100 : Int) < (n : Int) := by omega
    have c1 := pair_Play_z mode d A n c w 1 (.inr (.inr ⟨⟨by omega, by omega, by omega, by omega, by omega⟩, rfl⟩))
    clear h hm hd
    go_enter Try.func3, Try.ntmps3
    go_wp2_with (first
      | (go_at_call 7; refine c1.mono ?_; clear c1; rintro e w1 ⟨rfl, hb1⟩; have ha1 := (ha w1).alloc (.cells #[.slice none 0 0, .int .i64 0, .int .i64 0] 25); have hz1 := hz w1; have ac0 := ha1.cell (j := 0) rfl; have ac1 := ha1.cell (j := 1) rfl; have ac2 := ha1.cell (j := 2) rfl; have zc0 := hz1.cell (j := 0) rfl; have zc1 := hz1.cell (j := 1) rfl; have zc2 := hz1.cell (j := 2) rfl; clear ha hz)
      | (go_at_call 8; refine (c2 _).mono ?_; clear c2; rintro e w' ⟨rfl, rfl⟩)
      | (go_at_call 9; refine (c3 _).mono ?_; clear c3; rintro e w' ⟨rfl, rfl⟩)
      | (go_at_call 11; refine (dones_zero _).mono ?_; rintro e w2 ⟨rfl, q, rfl⟩))
    go_ret
    exact ⟨rfl, below_drewN ((hb1.alloc hb1.size _).alloc (by have := hb1.size; simp; omega) _) _⟩
set_option maxRecDepth 100000 in
set_option maxHeartbeats 2000000 in
theorem pair_law (mode d : Nat) (A : Option Addr) (n c : Nat) (l : List StS) (w : World) (h : ReadsK w w.heap.size 4 A n (l.map stC)) (hl : ∀ m ∈ l, m.val < 256) (m1 : 1 ≤ mode) (m3 : mode ≤ 3) (h3 : 3 ≤ d) (h6 : d ≤ 6) (hn : n ≤ 100) :
    Calls Try.prog 3 #[.int .i64 (mode : Int), .int .i64 (d : Int), .slice A n c] w (LawTrue w) := by
  have c1 := pair_Play mode d A n c l w h hl m1 m3 h3 h6 hn
  have c2 := fun W => law_modeCheck (mode : Int) 0 W (by unfold Hid modeErr; rw [if_neg (by omega)])
  have c3 := fun W => law_discs (d : Int) 0 W (by unfold Hid discsErr; rw [if_neg (by omega)])
  have c4 := fun (W : World) (hW : Below w.heap.size w W) => ref_Pair mode d A n c l W ((h.below hW).more hW.size) hl hn
  have hs := pair_same h3 h6 mode l n
  have e1 : toldF mode (playG (mvP d) mode d startP l n) = toldF mode (playG (mvB d) mode d startB l n) := by
    unfold toldF tellG
    rw [hs.main, hs.ws, hs.k, hs.told]
  rw [e1, hs.main, hs.outs] at c1
  have hln : l.length = n := by have := h.len; rwa [List.length_map] at this
  have hol := (PrOk.play (mvB d) hl mode d startB n (by omega)).ol
  obtain ⟨T, hT⟩ : ∃ T, toldF mode (playG (mvB d) mode d startB l n) = T := ⟨_, rfl⟩
  obtain ⟨M, hM⟩ : ∃ M, (playG (mvB d) mode d startB l n).main = M := ⟨_, rfl⟩
  obtain ⟨outs, ho⟩ : ∃ o, (playG (mvB d) mode d startB l n).outs = o := ⟨_, rfl⟩
  rw [hT, hM, ho] at c1
  simp only [hT, hM, ho] at c4
  rw [ho] at hol
  have HOL := Lib.hid hol
  have i0 : ¬ (100 : Int) < (n : Int) := by omega
  clear h hl hs e1 hln hol hT hM ho
  go_enter Try.func3, Try.ntmps3
  go_wp2_with (first
    | (go_at_call 7; refine c1.mono ?_; clear c1; rintro e w1 ⟨A1, k1, rfl, o1, hb1⟩
       have ha1 : BoxV (w1.alloc (.cells #[.slice A1 n k1, .int .i64 (T : Int), .int .i64 (M : Int)] 25)) w1.heap.size 25 [.slice A1 n k1, .int .i64 (T : Int), .int .i64 (M : Int)] := BoxV.new w1 _ _)
    | (go_at_call 8; refine (c2 _).mono ?_; clear c2; rintro e w' ⟨rfl, rfl⟩)
    | (go_at_call 9; refine (c3 _).mono ?_; clear c3; rintro e w' ⟨rfl, rfl⟩)
    | (go_at_call 10; refine (c4 _ ((hb1.alloc hb1.size _).alloc (by have := hb1.size; simp; omega) _)).mono ?_; clear c4; rintro e w3 ⟨A2, k2, rfl, o3, hb3⟩
       have hz1 : BoxV ((w1.alloc (.cells #[.slice A1 n k1, .int .i64 (T : Int), .int .i64 (M : Int)] 25)).alloc (.cells #[.slice none 0 0, .int .i64 0, .int .i64 0] 25)) (w1.heap.size + 1) 25 [.slice none 0 0, .int .i64 0, .int .i64 0] := by
         have := BoxV.new (w1.alloc (.cells #[.slice A1 n k1, .int .i64 (T : Int), .int .i64 (M : Int)] 25)) [.slice none 0 0, .int .i64 0, .int .i64 0] 25
         simpa using this
       have hz3 := hz1.below hb3
       have ha3 := (ha1.alloc (.cells #[.slice none 0 0, .int .i64 0, .int .i64 0] 25)).below hb3
       have hb13 := ((hb1.alloc hb1.size (.cells #[.slice A1 n k1, .int .i64 (T : Int), .int .i64 (M : Int)] 25)).alloc (by have := hb1.size; simp; omega) (.cells #[.slice none 0 0, .int .i64 0, .int .i64 0] 25)).trans (hb3.mono (by have := hb1.size; simp; omega))
       have oa := ((o1.alloc (.cells #[.slice A1 n k1, .int .i64 (T : Int), .int .i64 (M : Int)] 25)).alloc (.cells #[.slice none 0 0, .int .i64 0, .int .i64 0] 25)).below hb3 (Nat.le_refl _)
       have cF : Ch w3 (((w3.setCell ⟨w1.heap.size + 1, 0, none⟩ (.slice A2 n k2)).setCell ⟨w1.heap.size + 1, 1, none⟩ (.int .i64 (T : Int))).setCell ⟨w1.heap.size + 1, 2, none⟩ (.int .i64 (M : Int))) (fun b => b = w1.heap.size + 1) := ((((Ch.refl w3 (fun b => b = w1.heap.size + 1)).setCell (w1.heap.size + 1) 0 (.slice A2 n k2) (fun _ => rfl)).setCell (w1.heap.size + 1) 1 (.int .i64 (T : Int)) (fun _ => rfl)).setCell (w1.heap.size + 1) 2 (.int .i64 (M : Int)) (fun _ => rfl))
       have R1 := Lib.hid (oa.ch cF (fun b hb e => oa.notBox hz3 (by decide) (by rw [hb, e])))
       have R4 := Lib.hid (o3.ch cF (fun b hb e => o3.notBox hz3 (by decide) (by rw [hb, e])))
       have hbF := ((hz3.set 0 (.slice A2 n k2)).set 1 (.int .i64 (T : Int))).set 2 (.int .i64 (M : Int))
       have haF := ha3.ch cF (by omega)
       have HBF := Lib.hid (((hb13.setCell (p := ⟨w1.heap.size + 1, 0, none⟩) (by have := hb1.size; simp; omega) (.slice A2 n k2)).setCell (p := ⟨w1.heap.size + 1, 1, none⟩) (by have := hb1.size; simp; omega) (.int .i64 (T : Int))).setCell (p := ⟨w1.heap.size + 1, 2, none⟩) (by have := hb1.size; simp; omega) (.int .i64 (M : Int)))
       have zc0 := hz3.cell (j := 0) rfl; have zc1 := hz3.cell (j := 1) rfl; have zc2 := hz3.cell (j := 2) rfl; have zf0 := hz3.free 0; have zf1 := hz3.free 1; have zf2 := hz3.free 2
       have bc0 := hbF.cell (j := 0) rfl; have bc1 := hbF.cell (j := 1) rfl; have bc2 := hbF.cell (j := 2) rfl
       have ac0 := haF.cell (j := 0) rfl; have ac1 := haF.cell (j := 1) rfl; have ac2 := haF.cell (j := 2) rfl
       clear hb1 ha1 hz1 ha3 hz3 hb13 oa o1 o3 hb3 hbF haF cF)
    | (go_at_call 11; refine (ref_Dones A1 A2 n k1 k2 outs _ R1.out.reads R4.out.reads hn).mono ?_; rintro e w4 ⟨rfl, q, rfl⟩))
  go_ret
  exact ⟨rfl, below_drewN HBF.out _⟩
theorem PairPlays_walk (mode : Int) (d : Int) (A : Option Addr) (n c : Nat) (zss : List (List Int)) (w : World) (_ : (Lit.int .i64 mode).wf = true) (_ : (Lit.int .i64 d).wf = true) (h : ReadsK w w.heap.size 4 A n (zss.map fun zs => List.zipWith Value.int [.i64, .i64, .i64, .u8] zs))
    (wf : ∀ zs ∈ zss, zs.length = [IntKind.i64, IntKind.i64, IntKind.i64, IntKind.u8].length ∧ ∀ (j : Nat) (z : Int) (k : IntKind), zs[j]? = some z → [IntKind.i64, IntKind.i64, IntKind.i64, IntKind.u8][j]? = some k → (Lit.int k z).wf = true) (hm : n * 32 ≤ reachBytes) :
    Calls Try.prog 3 #[.int .i64 mode, .int .i64 d, .slice A n c] w (LawTrue w) := by
  by_cases hd : 1 ≤ mode ∧ mode ≤ 3 ∧ 3 ≤ d ∧ d ≤ 6 ∧ n ≤ 100
  · obtain ⟨h1, h2⟩ := stOfP_is zss wf
    rw [h1] at h
    obtain ⟨M, rfl⟩ := Int.eq_ofNat_of_zero_le (show 0 ≤ mode by omega)
    obtain ⟨D, rfl⟩ := Int.eq_ofNat_of_zero_le (show 0 ≤ d by omega)
    exact pair_law M D A n c (stOfP zss) w h h2 (by omega) (by omega) (by omega) (by omega) (by omega)
  · exact pair_law_err mode d A n c w hd
end Go.Proofs.Ytbhhijdpmpcdnaa

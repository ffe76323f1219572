/-
  The law ShipPlays.
-/
import Derived.Test.YtglcljlafioleaaShref
import Derived.Test.YtglcljlafioleaaShlb
set_option linter.unusedVariables false
namespace Go.Proofs.Ytglcljlafioleaa
open Go.RowKit

def stOf (zss : List (List Int)) : List StS := zss.map fun z => ⟨z.getD 0 0, z.getD 1 0, z.getD 2 0, (z.getD 3 0).toNat⟩
theorem four_of {z : List Int} (h : z.length = 4) : z = [z.getD 0 0, z.getD 1 0, z.getD 2 0, z.getD 3 0] := by
  match z, h with
  | [a, b, c, d], _ => rfl
theorem stOf_is (zss : List (List Int)) (wf : ∀ zs ∈ zss, zs.length = [IntKind.i64, IntKind.i64, IntKind.i64, IntKind.u8].length ∧ ∀ (j : Nat) (z : Int) (k : IntKind), zs[j]? = some z → [IntKind.i64, IntKind.i64, IntKind.i64, IntKind.u8][j]? = some k → (Lit.int k z).wf = true) :
    (zss.map fun zs => List.zipWith Value.int [.i64, .i64, .i64, .u8] zs) = (stOf zss).map stC ∧ ∀ m ∈ stOf zss, m.val < 256 := by
  have hb : ∀ z ∈ zss, z = [z.getD 0 0, z.getD 1 0, z.getD 2 0, z.getD 3 0] ∧ 0 ≤ z.getD 3 0 ∧ z.getD 3 0 < 256 := by
    intro z hz
    obtain ⟨h1, h2⟩ := wf z hz
    have h3 := four_of h1
    have h4 := bounds_u8 (h2 3 (z.getD 3 0) .u8 (by rw [h3]; rfl) rfl)
    exact ⟨h3, h4.1, by have := h4.2; omega⟩
  constructor
  · unfold stOf
    rw [List.map_map]
    apply List.map_congr_left
    intro z hz
    obtain ⟨h1, h2, h3⟩ := hb z hz
    show List.zipWith Value.int [.i64, .i64, .i64, .u8] z = [Value.int .i64 (z.getD 0 0), Value.int .i64 (z.getD 1 0), Value.int .i64 (z.getD 2 0), Value.int .u8 (((z.getD 3 0).toNat : Nat) : Int)]
    rw [Int.toNat_of_nonneg h2]
    conv => lhs; rw [h1]
    rfl
  · intro m hm
    unfold stOf at hm
    obtain ⟨z, hz, rfl⟩ := List.mem_map.1 hm
    obtain ⟨h1, h2, h3⟩ := hb z hz
    show (z.getD 3 0).toNat < 256
    omega
theorem reads_none (W : World) (k : IntKind) : Reads W W.heap.size none 0 (vn k []) := (Own.nil W W.heap.size 0).reads
theorem ship_zero (W : World) : Calls Try.prog 23 #[.agg #[.slice none 0 0, .int .i64 0, .int .i64 0, .int .i64 0, .slice none 0 0, .slice none 0 0], .agg #[.slice none 0 0, .int .i64 0, .int .i64 0, .int .i64 0, .slice none 0 0, .slice none 0 0]] W (LawTrue W) :=
  ref_Ships none none none none none none 0 0 0 0 0 0 0 0 [] [] [] 0 0 0 W (reads_none _ _) (reads_none _ _) (reads_none _ _) (reads_none _ _) (reads_none _ _) (reads_none _ _) (by omega) (by omega)
set_option maxHeartbeats 1600000 in
theorem ship_law_err (mode : Int) (A : Option Addr) (n c : Nat) (w : World) (z : Int) (h : (mode < 1 ∨ 3 < mode) ∧ z = 6 ∨ (1 ≤ mode ∧ mode ≤ 3 ∧ 100 < n) ∧ z = 1) :
    Calls Try.prog 7 #[.int .i64 mode, .slice A n c] w (LawTrue w) := by
  have ha := fun W : World => (show BoxV (W.alloc (.cells #[.slice none 0 0, .int .i64 0, .int .i64 0, .int .i64 0, .slice none 0 0, .slice none 0 0] 48)) W.heap.size 48 [.slice none 0 0, .int .i64 0, .int .i64 0, .int .i64 0, .slice none 0 0, .slice none 0 0] from BoxV.new W _ _)
  have hz := fun W : World => (show BoxV ((W.alloc (.cells #[.slice none 0 0, .int .i64 0, .int .i64 0, .int .i64 0, .slice none 0 0, .slice none 0 0] 48)).alloc (.cells #[.slice none 0 0, .int .i64 0, .int .i64 0, .int .i64 0, .slice none 0 0, .slice none 0 0] 48)) (W.heap.size + 1) 48 [.slice none 0 0, .int .i64 0, .int .i64 0, .int .i64 0, .slice none 0 0, .slice none 0 0] from by have := BoxV.new (W.alloc (.cells #[.slice none 0 0, .int .i64 0, .int .i64 0, .int .i64 0, .slice none 0 0, .slice none 0 0] 48)) [.slice none 0 0, .int .i64 0, .int .i64 0, .int .i64 0, .slice none 0 0, .slice none 0 0] 48; simpa using this)
  rcases h with ⟨h, rfl⟩ | ⟨⟨h3, h6, hn⟩, rfl⟩
  · have c1 := ship_Play_no mode A n c w h
    have c2 := fun W => law_modeCheck mode 6 W (by simp [Hid, modeErr, h])
    clear h
    go_enter Try.func7, Try.ntmps7
    go_wp2_with (first
      | (go_at_call 20; refine c1.mono ?_; clear c1; rintro e w1 ⟨rfl, hb1⟩; have ha1 := (ha w1).alloc (.cells #[.slice none 0 0, .int .i64 0, .int .i64 0, .int .i64 0, .slice none 0 0, .slice none 0 0] 48); have hz1 := hz w1; have ac0 := ha1.cell (j := 0) rfl; have ac1 := ha1.cell (j := 1) rfl; have ac2 := ha1.cell (j := 2) rfl; have ac3 := ha1.cell (j := 3) rfl; have ac4 := ha1.cell (j := 4) rfl; have ac5 := ha1.cell (j := 5) rfl; have zc0 := hz1.cell (j := 0) rfl; have zc1 := hz1.cell (j := 1) rfl; have zc2 := hz1.cell (j := 2) rfl; have zc3 := hz1.cell (j := 3) rfl; have zc4 := hz1.cell (j := 4) rfl; have zc5 := hz1.cell (j := 5) rfl; clear ha hz)
      | (go_at_call 21; refine (c2 _).mono ?_; clear c2; rintro e w' ⟨rfl, rfl⟩)
      | (go_at_call 23; refine (ship_zero _).mono ?_; rintro e w2 ⟨rfl, hb2⟩))
    go_ret
    exact ⟨rfl, ((hb1.alloc hb1.size _).alloc (by have := hb1.size; simp; omega) _).trans (hb2.mono (by have := hb1.size; simp; omega))⟩
  · have c1 := ship_Play_far mode A n c w h3 h6 hn
    have c2 := fun W => law_modeCheck mode 0 W (by unfold Hid modeErr; rw [if_neg (by omega)])
    have i0 : (100 : Int) < (n : Int) := by omega
    go_enter Try.func7, Try.ntmps7
    go_wp2_with (first
      | (go_at_call 20; refine c1.mono ?_; clear c1; rintro e w1 ⟨rfl, hb1⟩; have ha1 := (ha w1).alloc (.cells #[.slice none 0 0, .int .i64 0, .int .i64 0, .int .i64 0, .slice none 0 0, .slice none 0 0] 48); have hz1 := hz w1; have ac0 := ha1.cell (j := 0) rfl; have ac1 := ha1.cell (j := 1) rfl; have ac2 := ha1.cell (j := 2) rfl; have ac3 := ha1.cell (j := 3) rfl; have ac4 := ha1.cell (j := 4) rfl; have ac5 := ha1.cell (j := 5) rfl; have zc0 := hz1.cell (j := 0) rfl; have zc1 := hz1.cell (j := 1) rfl; have zc2 := hz1.cell (j := 2) rfl; have zc3 := hz1.cell (j := 3) rfl; have zc4 := hz1.cell (j := 4) rfl; have zc5 := hz1.cell (j := 5) rfl; clear ha hz)
      | (go_at_call 21; refine (c2 _).mono ?_; clear c2; rintro e w' ⟨rfl, rfl⟩)
      | (go_at_call 23; refine (ship_zero _).mono ?_; rintro e w2 ⟨rfl, hb2⟩))
    go_ret
    exact ⟨rfl, ((hb1.alloc hb1.size _).alloc (by have := hb1.size; simp; omega) _).trans (hb2.mono (by have := hb1.size; simp; omega))⟩
set_option maxRecDepth 100000 in
set_option maxHeartbeats 2000000 in
theorem ship_law (mode : Nat) (A : Option Addr) (n c : Nat) (l : List StS) (w : World) (h : ReadsK w w.heap.size 4 A n (l.map stC)) (hl : ∀ m ∈ l, m.val < 256) (h1 : 1 ≤ mode) (h3 : mode ≤ 3) (hn : n ≤ 100) :
    Calls Try.prog 7 #[.int .i64 (mode : Int), .slice A n c] w (LawTrue w) := by
  have c1 := ship_Play mode A n c l w h hl h1 h3 hn
  have c2 := fun W => law_modeCheck (mode : Int) 0 W (by unfold Hid modeErr; rw [if_neg (by omega)])
  have c3 := fun (W : World) (hW : Below w.heap.size w W) => ref_Ship mode A n c l W ((h.below hW).more hW.size) hl h1 h3 hn
  have hln : l.length = n := by have := h.len; rwa [List.length_map] at this
  have hcl := (ShOk.play hl mode n (by omega)).cl
  have i0 : ¬ (100 : Int) < (n : Int) := by omega
  generalize (playS mode l n).codes = codes at *
  generalize (playS mode l n).main = main at *
  generalize (playS mode l n).other = other at *
  generalize (playS mode l n).g = G at *
  generalize (playS mode l n).p = P at *
  generalize toldS mode (playS mode l n) = T at *
  have c1 := c1.mono (R' := fun e w' => ∃ A1 k1 gm go, e = .returned (.tuple #[.agg #[.slice A1 n k1, .int .i64 (T : Int), .int .i64 (G : Int), .int .i64 (P : Int), .slice (some ⟨gm, 0, none⟩) 8 8, .slice (some ⟨go, 0, none⟩) 8 8], .int .i64 0]) ∧ Own w' w.heap.size 24 (.slice A1 n k1) (vn .i64 codes) ∧ Own w' w.heap.size 5 (.slice (some ⟨gm, 0, none⟩) 8 8) (vn .u8 main) ∧ Own w' w.heap.size 5 (.slice (some ⟨go, 0, none⟩) 8 8) (vn .u8 other) ∧ Below w.heap.size w w') (by
    rintro e w' ⟨CV, gm, go, rfl, ho, hm, hq, hb⟩
    obtain ⟨A1, k1, rfl⟩ := ho.form
    rw [show (vn .i64 codes).length = n by simp [vn, hcl]] at ho ⊢
    exact ⟨A1, k1, gm, go, rfl, ho, hm, hq, hb⟩)
  have c3 := fun (W : World) (hW : Below w.heap.size w W) => (c3 W hW).mono (R' := fun e w' => ∃ A2 k2 gm2 go2, e = .returned (.agg #[.slice A2 n k2, .int .i64 (T : Int), .int .i64 (G : Int), .int .i64 (P : Int), .slice (some ⟨gm2, 0, none⟩) 8 8, .slice (some ⟨go2, 0, none⟩) 8 8]) ∧ Own w' W.heap.size 24 (.slice A2 n k2) (vn .i64 codes) ∧ Own w' W.heap.size 5 (.slice (some ⟨gm2, 0, none⟩) 8 8) (vn .u8 main) ∧ Own w' W.heap.size 5 (.slice (some ⟨go2, 0, none⟩) 8 8) (vn .u8 other) ∧ Below W.heap.size W w') (by
    rintro e w' ⟨CV, gm, go, rfl, ho, hm, hq, hb⟩
    obtain ⟨A1, k1, rfl⟩ := ho.form
    rw [show (vn .i64 codes).length = n by simp [vn, hcl]] at ho ⊢
    exact ⟨A1, k1, gm, go, rfl, ho, hm, hq, hb⟩)
  clear h hl hln hcl
  go_enter Try.func7, Try.ntmps7
  go_wp2_with (first
    | (go_at_call 20; refine c1.mono ?_; clear c1; rintro e w1 ⟨A1, k1, gm, go, rfl, o1, m1, q1, hb1⟩
       have hbW : Below w.heap.size w ((w1.alloc (.cells #[.slice A1 n k1, .int .i64 (T : Int), .int .i64 (G : Int), .int .i64 (P : Int), .slice (some ⟨gm, 0, none⟩) 8 8, .slice (some ⟨go, 0, none⟩) 8 8] 48)).alloc (.cells #[.slice none 0 0, .int .i64 0, .int .i64 0, .int .i64 0, .slice none 0 0, .slice none 0 0] 48)) := (hb1.alloc hb1.size _).alloc (by have := hb1.size; simp; omega) _
       have ha1 : BoxV ((w1.alloc (.cells #[.slice A1 n k1, .int .i64 (T : Int), .int .i64 (G : Int), .int .i64 (P : Int), .slice (some ⟨gm, 0, none⟩) 8 8, .slice (some ⟨go, 0, none⟩) 8 8] 48)).alloc (.cells #[.slice none 0 0, .int .i64 0, .int .i64 0, .int .i64 0, .slice none 0 0, .slice none 0 0] 48)) w1.heap.size 48 [.slice A1 n k1, .int .i64 (T : Int), .int .i64 (G : Int), .int .i64 (P : Int), .slice (some ⟨gm, 0, none⟩) 8 8, .slice (some ⟨go, 0, none⟩) 8 8] := BoxV.alloc (BoxV.new w1 _ _) _
       have hz1 : BoxV ((w1.alloc (.cells #[.slice A1 n k1, .int .i64 (T : Int), .int .i64 (G : Int), .int .i64 (P : Int), .slice (some ⟨gm, 0, none⟩) 8 8, .slice (some ⟨go, 0, none⟩) 8 8] 48)).alloc (.cells #[.slice none 0 0, .int .i64 0, .int .i64 0, .int .i64 0, .slice none 0 0, .slice none 0 0] 48)) (w1.heap.size + 1) 48 [.slice none 0 0, .int .i64 0, .int .i64 0, .int .i64 0, .slice none 0 0, .slice none 0 0] := by have := BoxV.new (w1.alloc (.cells #[.slice A1 n k1, .int .i64 (T : Int), .int .i64 (G : Int), .int .i64 (P : Int), .slice (some ⟨gm, 0, none⟩) 8 8, .slice (some ⟨go, 0, none⟩) 8 8] 48)) [.slice none 0 0, .int .i64 0, .int .i64 0, .int .i64 0, .slice none 0 0, .slice none 0 0] 48; simpa using this
       have HB1 := Lib.hid hb1
       clear hb1)
    | (go_at_call 21; refine (c2 _).mono ?_; clear c2; rintro e w' ⟨rfl, rfl⟩)
    | (go_at_call 22; refine (c3 _ hbW).mono ?_; clear c3; rintro e w3 ⟨A2, k2, gm2, go2, rfl, o3, m3, q3, hb3⟩
       have hb1 := HB1.out
       have ha3 := ha1.below hb3
       have hz3 := hz1.below hb3
       have hb13 := hbW.trans (hb3.mono (by have := hb1.size; simp; omega))
       have oa := ((o1.alloc (.cells #[.slice A1 n k1, .int .i64 (T : Int), .int .i64 (G : Int), .int .i64 (P : Int), .slice (some ⟨gm, 0, none⟩) 8 8, .slice (some ⟨go, 0, none⟩) 8 8] 48)).alloc (.cells #[.slice none 0 0, .int .i64 0, .int .i64 0, .int .i64 0, .slice none 0 0, .slice none 0 0] 48)).below hb3 (Nat.le_refl _)
       have ma := ((m1.alloc (.cells #[.slice A1 n k1, .int .i64 (T : Int), .int .i64 (G : Int), .int .i64 (P : Int), .slice (some ⟨gm, 0, none⟩) 8 8, .slice (some ⟨go, 0, none⟩) 8 8] 48)).alloc (.cells #[.slice none 0 0, .int .i64 0, .int .i64 0, .int .i64 0, .slice none 0 0, .slice none 0 0] 48)).below hb3 (Nat.le_refl _)
       have qa := ((q1.alloc (.cells #[.slice A1 n k1, .int .i64 (T : Int), .int .i64 (G : Int), .int .i64 (P : Int), .slice (some ⟨gm, 0, none⟩) 8 8, .slice (some ⟨go, 0, none⟩) 8 8] 48)).alloc (.cells #[.slice none 0 0, .int .i64 0, .int .i64 0, .int .i64 0, .slice none 0 0, .slice none 0 0] 48)).below hb3 (Nat.le_refl _)
       have R1 := Lib.hid (((((((oa.setOther ⟨w1.heap.size + 1, 0, none⟩ (.slice A2 n k2) (oa.notBox hz3 (by decide))).setOther ⟨w1.heap.size + 1, 1, none⟩ (.int .i64 (T : Int)) (oa.notBox hz3 (by decide))).setOther ⟨w1.heap.size + 1, 2, none⟩ (.int .i64 (G : Int)) (oa.notBox hz3 (by decide))).setOther ⟨w1.heap.size + 1, 3, none⟩ (.int .i64 (P : Int)) (oa.notBox hz3 (by decide))).setOther ⟨w1.heap.size + 1, 4, none⟩ (.slice (some ⟨gm2, 0, none⟩) 8 8) (oa.notBox hz3 (by decide))).setOther ⟨w1.heap.size + 1, 5, none⟩ (.slice (some ⟨go2, 0, none⟩) 8 8) (oa.notBox hz3 (by decide))))
       have R2 := Lib.hid (((((((ma.setOther ⟨w1.heap.size + 1, 0, none⟩ (.slice A2 n k2) (ma.notBox hz3 (by decide))).setOther ⟨w1.heap.size + 1, 1, none⟩ (.int .i64 (T : Int)) (ma.notBox hz3 (by decide))).setOther ⟨w1.heap.size + 1, 2, none⟩ (.int .i64 (G : Int)) (ma.notBox hz3 (by decide))).setOther ⟨w1.heap.size + 1, 3, none⟩ (.int .i64 (P : Int)) (ma.notBox hz3 (by decide))).setOther ⟨w1.heap.size + 1, 4, none⟩ (.slice (some ⟨gm2, 0, none⟩) 8 8) (ma.notBox hz3 (by decide))).setOther ⟨w1.heap.size + 1, 5, none⟩ (.slice (some ⟨go2, 0, none⟩) 8 8) (ma.notBox hz3 (by decide))))
       have R3 := Lib.hid (((((((qa.setOther ⟨w1.heap.size + 1, 0, none⟩ (.slice A2 n k2) (qa.notBox hz3 (by decide))).setOther ⟨w1.heap.size + 1, 1, none⟩ (.int .i64 (T : Int)) (qa.notBox hz3 (by decide))).setOther ⟨w1.heap.size + 1, 2, none⟩ (.int .i64 (G : Int)) (qa.notBox hz3 (by decide))).setOther ⟨w1.heap.size + 1, 3, none⟩ (.int .i64 (P : Int)) (qa.notBox hz3 (by decide))).setOther ⟨w1.heap.size + 1, 4, none⟩ (.slice (some ⟨gm2, 0, none⟩) 8 8) (qa.notBox hz3 (by decide))).setOther ⟨w1.heap.size + 1, 5, none⟩ (.slice (some ⟨go2, 0, none⟩) 8 8) (qa.notBox hz3 (by decide))))
       have R4 := Lib.hid (((((((o3.setOther ⟨w1.heap.size + 1, 0, none⟩ (.slice A2 n k2) (o3.notBox hz3 (by decide))).setOther ⟨w1.heap.size + 1, 1, none⟩ (.int .i64 (T : Int)) (o3.notBox hz3 (by decide))).setOther ⟨w1.heap.size + 1, 2, none⟩ (.int .i64 (G : Int)) (o3.notBox hz3 (by decide))).setOther ⟨w1.heap.size + 1, 3, none⟩ (.int .i64 (P : Int)) (o3.notBox hz3 (by decide))).setOther ⟨w1.heap.size + 1, 4, none⟩ (.slice (some ⟨gm2, 0, none⟩) 8 8) (o3.notBox hz3 (by decide))).setOther ⟨w1.heap.size + 1, 5, none⟩ (.slice (some ⟨go2, 0, none⟩) 8 8) (o3.notBox hz3 (by decide))))
       have R5 := Lib.hid (((((((m3.setOther ⟨w1.heap.size + 1, 0, none⟩ (.slice A2 n k2) (m3.notBox hz3 (by decide))).setOther ⟨w1.heap.size + 1, 1, none⟩ (.int .i64 (T : Int)) (m3.notBox hz3 (by decide))).setOther ⟨w1.heap.size + 1, 2, none⟩ (.int .i64 (G : Int)) (m3.notBox hz3 (by decide))).setOther ⟨w1.heap.size + 1, 3, none⟩ (.int .i64 (P : Int)) (m3.notBox hz3 (by decide))).setOther ⟨w1.heap.size + 1, 4, none⟩ (.slice (some ⟨gm2, 0, none⟩) 8 8) (m3.notBox hz3 (by decide))).setOther ⟨w1.heap.size + 1, 5, none⟩ (.slice (some ⟨go2, 0, none⟩) 8 8) (m3.notBox hz3 (by decide))))
       have R6 := Lib.hid (((((((q3.setOther ⟨w1.heap.size + 1, 0, none⟩ (.slice A2 n k2) (q3.notBox hz3 (by decide))).setOther ⟨w1.heap.size + 1, 1, none⟩ (.int .i64 (T : Int)) (q3.notBox hz3 (by decide))).setOther ⟨w1.heap.size + 1, 2, none⟩ (.int .i64 (G : Int)) (q3.notBox hz3 (by decide))).setOther ⟨w1.heap.size + 1, 3, none⟩ (.int .i64 (P : Int)) (q3.notBox hz3 (by decide))).setOther ⟨w1.heap.size + 1, 4, none⟩ (.slice (some ⟨gm2, 0, none⟩) 8 8) (q3.notBox hz3 (by decide))).setOther ⟨w1.heap.size + 1, 5, none⟩ (.slice (some ⟨go2, 0, none⟩) 8 8) (q3.notBox hz3 (by decide))))
       have hbF := ((((((hz3.set 0 (.slice A2 n k2)).set 1 (.int .i64 (T : Int))).set 2 (.int .i64 (G : Int))).set 3 (.int .i64 (P : Int))).set 4 (.slice (some ⟨gm2, 0, none⟩) 8 8)).set 5 (.slice (some ⟨go2, 0, none⟩) 8 8))
       have haF := ((((((ha3.setOther (c := w1.heap.size + 1) (j := 0) (.slice A2 n k2) (by omega)).setOther (c := w1.heap.size + 1) (j := 1) (.int .i64 (T : Int)) (by omega)).setOther (c := w1.heap.size + 1) (j := 2) (.int .i64 (G : Int)) (by omega)).setOther (c := w1.heap.size + 1) (j := 3) (.int .i64 (P : Int)) (by omega)).setOther (c := w1.heap.size + 1) (j := 4) (.slice (some ⟨gm2, 0, none⟩) 8 8) (by omega)).setOther (c := w1.heap.size + 1) (j := 5) (.slice (some ⟨go2, 0, none⟩) 8 8) (by omega))
       have HBF := Lib.hid (((((((hb13.setCell (p := ⟨w1.heap.size + 1, 0, none⟩) (by have := hb1.size; simp; omega) (.slice A2 n k2)).setCell (p := ⟨w1.heap.size + 1, 1, none⟩) (by have := hb1.size; simp; omega) (.int .i64 (T : Int))).setCell (p := ⟨w1.heap.size + 1, 2, none⟩) (by have := hb1.size; simp; omega) (.int .i64 (G : Int))).setCell (p := ⟨w1.heap.size + 1, 3, none⟩) (by have := hb1.size; simp; omega) (.int .i64 (P : Int))).setCell (p := ⟨w1.heap.size + 1, 4, none⟩) (by have := hb1.size; simp; omega) (.slice (some ⟨gm2, 0, none⟩) 8 8)).setCell (p := ⟨w1.heap.size + 1, 5, none⟩) (by have := hb1.size; simp; omega) (.slice (some ⟨go2, 0, none⟩) 8 8)))
       have zc0 := hz3.cell (j := 0) rfl; have zc1 := hz3.cell (j := 1) rfl; have zc2 := hz3.cell (j := 2) rfl; have zc3 := hz3.cell (j := 3) rfl; have zc4 := hz3.cell (j := 4) rfl; have zc5 := hz3.cell (j := 5) rfl; have zf0 := hz3.free 0; have zf1 := hz3.free 1; have zf2 := hz3.free 2; have zf3 := hz3.free 3; have zf4 := hz3.free 4; have zf5 := hz3.free 5
       have bc0 := hbF.cell (j := 0) rfl; have bc1 := hbF.cell (j := 1) rfl; have bc2 := hbF.cell (j := 2) rfl; have bc3 := hbF.cell (j := 3) rfl; have bc4 := hbF.cell (j := 4) rfl; have bc5 := hbF.cell (j := 5) rfl
       have ac0 := haF.cell (j := 0) rfl; have ac1 := haF.cell (j := 1) rfl; have ac2 := haF.cell (j := 2) rfl; have ac3 := haF.cell (j := 3) rfl; have ac4 := haF.cell (j := 4) rfl; have ac5 := haF.cell (j := 5) rfl
       clear hb1 ha1 hz1 ha3 hz3 hb13 oa ma qa o1 m1 q1 o3 m3 q3 hb3 hbF haF)
    | (go_at_call 23; refine (ref_Ships _ _ _ _ _ _ n _ _ 8 _ _ _ _ codes main other (T : Int) (G : Int) (P : Int) _ R1.out.reads R4.out.reads R2.out.reads R5.out.reads R3.out.reads R6.out.reads hn (by omega)).mono ?_; rintro e w5 ⟨rfl, hb5⟩))
  go_ret
  exact ⟨rfl, HBF.out.trans (hb5.mono HBF.out.size)⟩
theorem ShipPlays_walk (mode : Int) (A : Option Addr) (n c : Nat) (zss : List (List Int)) (w : World) (_ : (Lit.int .i64 mode).wf = true) (h : ReadsK w w.heap.size 4 A n (zss.map fun zs => List.zipWith Value.int [.i64, .i64, .i64, .u8] zs))
    (wf : ∀ zs ∈ zss, zs.length = [IntKind.i64, IntKind.i64, IntKind.i64, IntKind.u8].length ∧ ∀ (j : Nat) (z : Int) (k : IntKind), zs[j]? = some z → [IntKind.i64, IntKind.i64, IntKind.i64, IntKind.u8][j]? = some k → (Lit.int k z).wf = true) (hm : n * 32 ≤ reachBytes) :
    Calls Try.prog 7 #[.int .i64 mode, .slice A n c] w (LawTrue w) := by
  by_cases hd : mode < 1 ∨ 3 < mode
  · exact ship_law_err mode A n c w 6 (.inl ⟨hd, rfl⟩)
  · by_cases hn : 100 < n
    · exact ship_law_err mode A n c w 1 (.inr ⟨⟨by omega, by omega, hn⟩, rfl⟩)
    · obtain ⟨h1, h2⟩ := stOf_is zss wf
      rw [h1] at h
      obtain ⟨D, rfl⟩ := Int.eq_ofNat_of_zero_le (show 0 ≤ mode by omega)
      exact ship_law D A n c (stOf zss) w h h2 (by omega) (by omega) (by omega)
end Go.Proofs.Ytglcljlafioleaa

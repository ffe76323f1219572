import Derived.Test.YthbmnaonnebnhaaPoint
import Derived.Test.YthbmnaonnebnhaaInts
set_option linter.unusedVariables false
namespace Go.Proofs.Ythbmnaonnebnhaa
open Go.RowKit

def ptL (l : List Nat) (m : Nat) : List Nat := (List.range m).map fun i => horn (i + 1) l
theorem ptL_next (l : List Nat) (k : Nat) : vn .i64 (ptL l k) ++ [.int .i64 (horn (k + 1) l : Int)] = vn .i64 (ptL l (k + 1)) := by
  unfold ptL vn; simp [List.range_succ]
theorem ptL_len (l : List Nat) (k : Nat) : (vn .i64 (ptL l k)).length = k := by simp [ptL, vn]
set_option maxHeartbeats 600000 in
theorem points_put (m : Nat) (A : Option Addr) (n c : Nat) (l : List Nat) (w : World) (hm : m ≤ 9) (h : Reads w w.heap.size A n (vn .i64 l)) (hn : n ≤ 1000) (hl : ∀ z ∈ l, z < 16) :
    Calls Try.prog 50 #[.int .i64 (m : Int), .slice A n c] w (RetS w 3 (vn .i64 (ptL l m))) := by
  have cv := fun (x : Nat) (w2 : World) (hb : Below w.heap.size w w2) (hx : x < 16) => field_Value A n c l x w2 ((h.below hb).more hb.size) (by omega) hl hx
  go_enter Try.func50, Try.ntmps50
  go_wp2
  go_loopw [5, 6] (fun v i wr => ∃ k : Nat, k ≤ m ∧ i = .int .i64 ((k + 1 : Nat) : Int) ∧ Own wr w.heap.size 3 v (vn .i64 (ptL l k)) ∧ Below w.heap.size w wr) (fun _ i _ => m + 1 - (intOf i).toNat)
  case atStart => exact ⟨0, by omega, rfl, Own.nil _ _ _, Below.refl _ _⟩
  case round =>
    obtain ⟨k, hk, rfl, hown, hbel⟩ := hrel
    have HL := Lib.hid (ptL_len l k)
    by_cases hlt : k < m
    · have c1 := cv (k + 1) wr hbel (by omega)
      have HN := Lib.hid (ptL_next l k)
      clear cv
      generalize horn (k + 1) l = y at *
      have i1 : ((k + 1 : Nat) : Int) ≤ (m : Int) := by omega
      go_wp2_with (first | (go_at_call 44; refine c1.mono ?_; clear c1; rintro e w1 ⟨rfl, hb1⟩; have hown1 := hown.below hb1 (Nat.le_refl _); have hbel1 := hbel.trans (hb1.mono hbel.size)) | (at_builtin; refine app1 el_intP rfl _ _ rfl rfl hown1 _ _ rfl rfl (by rw [HL.out]; unfold maxLen; omega) (by rw [HL.out]; omega) hbel1.size ?_; intro v2 w2 ho2 hb2 _ _))
      go_roundw
      case rel => exact ⟨k + 1, by omega, by go_num, by rw [HN.out] at ho2; exact ho2, hbel1.trans hb2⟩
      case measure => simp [intOf]; omega
    · obtain rfl : k = m := by omega
      have i1 : ¬ ((k + 1 : Nat) : Int) ≤ (k : Int) := by omega
      obtain ⟨A2, c2, e⟩ := hown.form
      rw [HL.out] at e
      subst e
      go_wp2
      go_ret
      exact ⟨A2, _, c2, rfl, hown, hbel⟩
set_option maxHeartbeats 600000 in
theorem ref_Values (m : Nat) (A : Option Addr) (n c : Nat) (l : List Nat) (w : World) (hm : m ≤ 9) (h : Reads w w.heap.size A n (vn .i64 l)) (hn : n ≤ 1000) (hl : ∀ z ∈ l, z < 16) :
    Calls Try.prog 30 #[.int .i64 (m : Int), .slice A n c] w (RetS w 3 (vn .i64 (ptL l m))) := by
  have cv := fun (x : Nat) (w2 : World) (hb : Below w.heap.size w w2) (hx : x < 16) => ref_Value A n c l x w2 (h.below hb) (by omega) hl hx
  go_enter Try.func30, Try.ntmps30
  go_wp2
  go_loopw [5, 6] (fun v i wr => ∃ k : Nat, k ≤ m ∧ i = .int .i64 ((k + 1 : Nat) : Int) ∧ Own wr w.heap.size 3 v (vn .i64 (ptL l k)) ∧ Below w.heap.size w wr) (fun _ i _ => m + 1 - (intOf i).toNat)
  case atStart => exact ⟨0, by omega, rfl, Own.nil _ _ _, Below.refl _ _⟩
  case round =>
    obtain ⟨k, hk, rfl, hown, hbel⟩ := hrel
    have HL := Lib.hid (ptL_len l k)
    by_cases hlt : k < m
    · have c1 := cv (k + 1) wr hbel (by omega)
      have HN := Lib.hid (ptL_next l k)
      have hsz := hbel.size
      clear cv
      generalize horn (k + 1) l = y at *
      have i1 : ((k + 1 : Nat) : Int) ≤ (m : Int) := by omega
      go_wp2_with (first | (go_at_call 22; refine c1.mono ?_; clear c1; rintro e w1 ⟨rfl, rfl⟩) | (at_builtin; refine app1 el_intP rfl _ _ rfl rfl hown _ _ rfl rfl (by rw [HL.out]; unfold maxLen; omega) (by rw [HL.out]; omega) hsz ?_; intro v2 w2 ho2 hb2 _ _))
      go_roundw
      case rel => exact ⟨k + 1, by omega, by go_num, by rw [HN.out] at ho2; exact ho2, hbel.trans hb2⟩
      case measure => simp [intOf]; omega
    · obtain rfl : k = m := by omega
      have i1 : ¬ ((k + 1 : Nat) : Int) ≤ (k : Int) := by omega
      obtain ⟨A2, c2, e⟩ := hown.form
      rw [HL.out] at e
      subst e
      go_wp2
      go_ret
      exact ⟨A2, _, c2, rfl, hown, hbel⟩
def ptErr (nb : Int) (l : List Int) (n : Nat) : Int := if nb < 0 ∨ 9 < nb then 1 else if n = 0 ∨ nb < n then 3 else fldErr l
set_option maxHeartbeats 600000 in
theorem PointsPuts_walk (nb : Int) (A : Option Addr) (n c : Nat) (l : List Int) (w : World) (_ : (Lit.int .i64 nb).wf = true) (h : Reads w w.heap.size A n (vi .i64 l)) (_ : ∀ z ∈ l, (Lit.int .i64 z).wf = true) (hm : n * 8 ≤ reachBytes) :
    Calls Try.prog 9 #[.int .i64 nb, .slice A n c] w (LawTrue w) := by
  have hn : n ≤ maxLen := by have := reachBytes_lt; unfold maxLen; omega
  clear hm
  by_cases h1 : nb < 0
  · have c1 : Calls Try.prog 28 #[.int .i64 nb, .slice A n c] w (Ret w (.tuple #[.slice none 0 0, .int .i64 1])) := by
      go_enter Try.func28, Try.ntmps28
      go_wp2
      go_ret2
      exact ⟨rfl, rfl⟩
    go_enter Try.func9, Try.ntmps9
    go_wp2_with (go_at_call 28; refine c1.mono ?_; rintro e w1 ⟨rfl, rfl⟩)
    go_ret
    exact .same _
  by_cases h2 : 9 < nb
  · have c1 : Calls Try.prog 28 #[.int .i64 nb, .slice A n c] w (Ret w (.tuple #[.slice none 0 0, .int .i64 1])) := by
      go_enter Try.func28, Try.ntmps28
      go_wp2
      go_ret2
      exact ⟨rfl, rfl⟩
    go_enter Try.func9, Try.ntmps9
    go_wp2_with (go_at_call 28; refine c1.mono ?_; rintro e w1 ⟨rfl, rfl⟩)
    go_ret
    exact .same _
  obtain ⟨m, rfl⟩ : ∃ m : Nat, nb = m := ⟨nb.toNat, by omega⟩
  have hm9 : m ≤ 9 := by omega
  by_cases h3 : n = 0
  · subst h3
    have c1 : Calls Try.prog 28 #[.int .i64 (m : Int), .slice A 0 c] w (Ret w (.tuple #[.slice none 0 0, .int .i64 3])) := by
      clear h
      go_enter Try.func28, Try.ntmps28
      go_wp2
      go_ret2
      exact ⟨rfl, rfl⟩
    clear h
    go_enter Try.func9, Try.ntmps9
    go_wp2_with (go_at_call 28; refine c1.mono ?_; rintro e w1 ⟨rfl, rfl⟩)
    go_ret
    exact .same _
  have h30 : ((n : Int) == 0) = false := by simp; omega
  by_cases h4 : m < n
  · have h40 : (m : Int) < (n : Int) := by omega
    clear h3 h4
    have c1 : Calls Try.prog 28 #[.int .i64 (m : Int), .slice A n c] w (Ret w (.tuple #[.slice none 0 0, .int .i64 3])) := by
      clear h
      go_enter Try.func28, Try.ntmps28
      go_wp2
      go_ret2
      exact ⟨rfl, rfl⟩
    clear h
    go_enter Try.func9, Try.ntmps9
    go_wp2_with (go_at_call 28; refine c1.mono ?_; rintro e w1 ⟨rfl, rfl⟩)
    go_ret
    exact .same _
  have h40 : ¬ (m : Int) < (n : Int) := by omega
  have hn9 : n ≤ 9 := by omega
  clear h3 h4
  by_cases h5 : fldErr l = 0
  · have cf := field_Check A n c l 0 w h hn h5
    have cr := fun q => ref_FieldCheck A n c l 0 (World.drewN w q) (h.drewN q) hn h5
    obtain ⟨l', rfl, e2, hl⟩ := fldErr_nats h5
    have hr := h
    rw [e2] at hr
    have cp := fun q => points_put m A n c l' (w.drewN q) hm9 (hr.drewN q) (by omega) hl
    have hlenP := Lib.hid (ptL_len l' m)
    have c1 : Calls Try.prog 28 #[.int .i64 (m : Int), .slice A n c] w (fun e w' => ∃ A' n' c', e = .returned (.tuple #[.slice A' n' c', .int .i64 0]) ∧ Own w' w.heap.size 3 (.slice A' n' c') (vn .i64 (ptL l' m)) ∧ Below w.heap.size w w') := by
      clear h hr h5 e2 hl cr
      go_enter Try.func28, Try.ntmps28
      go_wp2_with (first | (go_at_call 40; refine cf.mono ?_; rintro e w1 ⟨rfl, m1, rfl⟩) | (go_at_call 50; refine (cp _).mono ?_; rintro e w2 ⟨A2, n2, k2, rfl, ho2, hb2⟩))
      go_ret2
      exact ⟨A2, n2, k2, rfl, ho2, (below_drewN (Below.refl _ w) m1).trans hb2⟩
    have c2 := fun (w1 : World) (hb1 : Below w.heap.size w w1) => ref_FieldCheck A n c (l'.map (fun x : Nat => (x : Int))) 0 w1 ((h.below hb1).more hb1.size) hn h5
    have c3 := fun (w1 : World) (hb1 : Below w.heap.size w w1) => ref_Values m A n c l' w1 hm9 ((hr.below hb1).more hb1.size) (by omega) hl
    have c4 := fun (A1 A2 : Option Addr) (n1 n2 k1 k2 : Nat) (w2 : World) (g1 : Reads w2 w2.heap.size A1 n1 (vn .i64 (ptL l' m))) (g2 : Reads w2 w2.heap.size A2 n2 (vn .i64 (ptL l' m))) => ref_Ints A1 A2 n1 n2 k1 k2 ((ptL l' m).map (fun x : Nat => (x : Int))) ((ptL l' m).map (fun x : Nat => (x : Int))) true w2 (by rw [vi_vnP]; exact g1) (by rw [vi_vnP]; exact g2) (by have := g1.len; have := hlenP.out; unfold maxLen; omega) (by simp [Hid])
    clear h hr h5 e2 hl cr cp cf
    generalize ptL l' m = xs at *
    go_enter Try.func9, Try.ntmps9
    go_wp2_with (first | (go_at_call 28; refine c1.mono ?_; clear c1; rintro e w1 ⟨A1, n1, k1, rfl, ho1, hb1⟩; have c2 := c2 w1 hb1; have c3 := c3 w1 hb1) | (go_at_call 15; refine c2.mono ?_; rintro e w' ⟨rfl, rfl⟩) | (go_at_call 30; refine c3.mono ?_; clear c3; rintro e w2 ⟨A2, n2, k2, rfl, ho2, hb2⟩; have c4 := c4 A1 A2 n1 n2 k1 k2 w2 ((ho1.reads.below hb2).more hb2.size) ho2.reads) | (go_at_call 29; refine c4.mono ?_; rintro e w3 ⟨rfl, m3, rfl⟩))
    go_ret
    exact ⟨rfl, below_drewN (hb1.trans (hb2.mono hb1.size)) _⟩
  · have hz : (fldErr l != 0) = true := by simpa using h5
    have cf := field_Check A n c l (fldErr l) w h hn rfl
    have cr := fun q => ref_FieldCheck A n c l (fldErr l) (World.drewN w q) (h.drewN q) hn rfl
    clear h5
    generalize fldErr l = z at *
    have c1 : Calls Try.prog 28 #[.int .i64 (m : Int), .slice A n c] w (RetQ w (.tuple #[.slice none 0 0, .int .i64 z])) := by
      clear h cr
      go_enter Try.func28, Try.ntmps28
      go_wp2_with (go_at_call 40; refine cf.mono ?_; rintro e w1 ⟨rfl, m1, rfl⟩)
      go_ret2
      exact ⟨rfl, m1, rfl⟩
    clear h cf
    go_enter Try.func9, Try.ntmps9
    go_wp2_with (first | (go_at_call 28; refine c1.mono ?_; rintro e w1 ⟨rfl, m1, rfl⟩) | (go_at_call 15; refine (cr _).mono ?_; rintro e w' ⟨rfl, rfl⟩))
    go_ret
    exact .drewN _ _
end Go.Proofs.Ythbmnaonnebnhaa

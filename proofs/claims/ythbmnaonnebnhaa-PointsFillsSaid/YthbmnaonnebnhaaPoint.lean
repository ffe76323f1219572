import Derived.Test.YthbmnaonnebnhaaBack
import Derived.Test.YthbmnaonnebnhaaGuard
set_option linter.unusedVariables false
namespace Go.Proofs.Ythbmnaonnebnhaa
open Go.RowKit

theorem el_intP : Elem Try.prog 26 3 (.int .i64 0) 8 := Elem.mk' Try.underlying26 (by kernel_rfl) rfl
theorem one_viP (l : List Int) : ∀ u ∈ vi .i64 l, u.oneCell' = true := by
  intro u hu; obtain ⟨b, _, rfl⟩ := List.mem_map.1 hu; rfl
theorem vi_vnP (l : List Nat) : vi .i64 (l.map (fun x : Nat => (x : Int))) = vn .i64 l := by unfold vi vn; rw [List.map_map]; rfl
set_option maxHeartbeats 600000 in
theorem ref_Value (A : Option Addr) (n c : Nat) (l : List Nat) (x : Nat) (w : World) {B : Nat} (h : Reads w B A n (vn .i64 l)) (hn : n ≤ 1000000) (hl : ∀ z ∈ l, z < 16) (hx : x < 16) :
    Calls Try.prog 22 #[.slice A n c, .int .i64 (x : Int)] w (Ret w (.int .i64 (horn x l : Int))) := by
  have HL := Lib.hid hl
  have H := Lib.hid h.nat_len
  have HH := Lib.hid (vals_zero hx hl)
  go_enter Try.func22, Try.ntmps22
  go_wp2
  go_loop [5, 10] (fun a i => ∃ k p : Nat, k ≤ n ∧ i = .int .i64 k ∧ a = .int .i64 p ∧ p < 16 ∧ Hid (vals x 0 (l.take k) = p)) (fun _ i => n - (intOf i).toNat)
  case atStart => exact ⟨0, 0, by omega, rfl, rfl, by omega, rfl⟩
  case round =>
    obtain ⟨k, p, hk, rfl, rfl, hp, ha⟩ := hrel
    by_cases hlt : k < n
    · obtain ⟨ad, y, rfl, _, hy, hc⟩ := h.nat_at hlt
      have hy16 := HL.out y (mem_at hy)
      have hg := gp_lt hx k
      have HA : Hid (vals x 0 (l.take (k + 1)) = p ^^^ gm y (gp x k)) := by unfold Hid; rw [vals_next hy, ha.out]
      have c1 := ref_Pow x k w hx (by omega)
      have c2 := ref_Mul y (gp x k) w hy16 hg
      have hm := gm_lt hy16 hg
      have e2 := i64_xor_nat p (gm y (gp x k)) (by omega) (by omega)
      have h2 := xor_lt16 hp hm
      clear hy ha
      generalize gm y (gp x k) = g2 at *
      generalize gp x k = g at *
      go_wp2_with (first | (go_at_call 20; refine c1.mono ?_; rintro e w' ⟨rfl, rfl⟩) | (go_at_call 16; refine c2.mono ?_; rintro e w' ⟨rfl, rfl⟩))
      go_round
      case rel => exact ⟨k + 1, p ^^^ g2, by omega, by go_num, by rw [← e2], h2, HA⟩
      case measure => simp [intOf]; omega
    · obtain rfl : k = n := by omega
      have HE : Hid (horn x l = p) := by
        unfold Hid; rw [← HH.out, ← ha.out, List.take_of_length_le (Nat.le_of_eq H.out)]
      go_wp2
      go_ret
      exact ⟨by rw [HE.out]; rfl, rfl⟩

set_option maxHeartbeats 600000 in
theorem field_At_err (A : Option Addr) (n c : Nat) (l : List Int) (x z : Int) (w : World) (h : Reads w w.heap.size A n (vi .i64 l)) (hn : n * 8 ≤ 140737488351232) (hz : Hid (fldErr (x :: l) = z)) (h0 : (z != 0) = true) :
    Calls Try.prog 21 #[.slice A n c, .int .i64 x] w (RetB w (.tuple #[.int .i64 0, .int .i64 z])) := by
  have hoA : Own (w.alloc (.cells #[.int .i64 x] 3)) w.heap.size 3 (.slice (some ⟨w.heap.size, 0, none⟩) 1 1) [.int .i64 x] := Own.built w #[.int .i64 x] 1 rfl (by unfold maxLen; omega) (Nat.le_refl _)
  have hrA : Reads (w.alloc (.cells #[.int .i64 x] 3)) w.heap.size A n (vi .i64 l) := h.alloc (Nat.le_refl _) _
  have hbA : Below w.heap.size w (w.alloc (.cells #[.int .i64 x] 3)) := (Below.refl _ _).alloc (Nat.le_refl _) _
  have hlen : Hid (([Value.int .i64 x] ++ vi .i64 l).length = n + 1) := by unfold Hid; simp [h.int_len]
  have hone : Hid (([Value.int .i64 x] : List Value).length = 1) := rfl
  have cc := fun (A2 : Option Addr) (k2 : Nat) (w2 : World) (h2 : Reads w2 w2.heap.size A2 (n + 1) (vi .i64 (x :: l))) => field_Check A2 (n + 1) k2 (x :: l) z w2 h2 (by unfold maxLen; omega) hz
  go_enter Try.func21, Try.ntmps21
  go_wp2_with (first | (at_builtin; refine appN el_intP rfl _ _ rfl rfl hoA rfl hrA (one_viP l) (by rw [hone.out]; unfold maxLen; omega) (by rw [hone.out]; omega) hbA.size ?_; clear hoA hrA; intro v2 w2 ho2 hb2 _ _; obtain ⟨A2, k2, e2⟩ := ho2.form; rw [hlen.out] at e2; subst e2; have cc := cc A2 k2 w2 ho2.reads) | (go_at_call 40; refine cc.mono ?_; rintro e w' ⟨rfl, m, rfl⟩))
  go_ret2
  exact ⟨rfl, below_drewN (hbA.trans hb2) _⟩
set_option maxHeartbeats 600000 in
theorem field_At_long (A : Option Addr) (n c : Nat) (l : List Int) (x : Int) (w : World) (h : Reads w w.heap.size A n (vi .i64 l)) (hn : n * 8 ≤ 140737488351232) (hz : Hid (fldErr (x :: l) = 0)) (h0 : 64 < n) :
    Calls Try.prog 21 #[.slice A n c, .int .i64 x] w (RetB w (.tuple #[.int .i64 0, .int .i64 1])) := by
  have hoA : Own (w.alloc (.cells #[.int .i64 x] 3)) w.heap.size 3 (.slice (some ⟨w.heap.size, 0, none⟩) 1 1) [.int .i64 x] := Own.built w #[.int .i64 x] 1 rfl (by unfold maxLen; omega) (Nat.le_refl _)
  have hrA : Reads (w.alloc (.cells #[.int .i64 x] 3)) w.heap.size A n (vi .i64 l) := h.alloc (Nat.le_refl _) _
  have hbA : Below w.heap.size w (w.alloc (.cells #[.int .i64 x] 3)) := (Below.refl _ _).alloc (Nat.le_refl _) _
  have hlen : Hid (([Value.int .i64 x] ++ vi .i64 l).length = n + 1) := by unfold Hid; simp [h.int_len]
  have hone : Hid (([Value.int .i64 x] : List Value).length = 1) := rfl
  have cc := fun (A2 : Option Addr) (k2 : Nat) (w2 : World) (h2 : Reads w2 w2.heap.size A2 (n + 1) (vi .i64 (x :: l))) => field_Check A2 (n + 1) k2 (x :: l) 0 w2 h2 (by unfold maxLen; omega) hz
  go_enter Try.func21, Try.ntmps21
  go_wp2_with (first | (at_builtin; refine appN el_intP rfl _ _ rfl rfl hoA rfl hrA (one_viP l) (by rw [hone.out]; unfold maxLen; omega) (by rw [hone.out]; omega) hbA.size ?_; clear hoA hrA; intro v2 w2 ho2 hb2 _ _; obtain ⟨A2, k2, e2⟩ := ho2.form; rw [hlen.out] at e2; subst e2; have cc := cc A2 k2 w2 ho2.reads) | (go_at_call 40; refine cc.mono ?_; rintro e w' ⟨rfl, m, rfl⟩))
  go_ret2
  exact ⟨rfl, below_drewN (hbA.trans hb2) _⟩
set_option maxHeartbeats 600000 in
theorem field_At (A : Option Addr) (n c : Nat) (l : List Nat) (x : Nat) (w : World) (h : Reads w w.heap.size A n (vn .i64 l)) (hl : ∀ z ∈ l, z < 16) (hx : x < 16) (h0 : n ≤ 64) :
    Calls Try.prog 21 #[.slice A n c, .int .i64 (x : Int)] w (RetB w (.tuple #[.int .i64 (horn x l : Int), .int .i64 0])) := by
  have hz : Hid (fldErr ((x :: l).map (fun x : Nat => (x : Int))) = 0) := fldErr_of_nats (fun y hy => (List.mem_cons.1 hy).elim (fun e => e ▸ hx) (hl y))
  rw [List.map_cons] at hz
  have hoA : Own (w.alloc (.cells #[.int .i64 (x : Int)] 3)) w.heap.size 3 (.slice (some ⟨w.heap.size, 0, none⟩) 1 1) [.int .i64 (x : Int)] := Own.built w #[.int .i64 (x : Int)] 1 rfl (by unfold maxLen; omega) (Nat.le_refl _)
  have hrA : Reads (w.alloc (.cells #[.int .i64 (x : Int)] 3)) w.heap.size A n (vi .i64 (l.map (fun x : Nat => (x : Int)))) := by rw [vi_vnP]; exact h.alloc (Nat.le_refl _) _
  have hbA : Below w.heap.size w (w.alloc (.cells #[.int .i64 (x : Int)] 3)) := (Below.refl _ _).alloc (Nat.le_refl _) _
  have hlen : Hid (([Value.int .i64 (x : Int)] ++ vi .i64 (l.map (fun x : Nat => (x : Int)))).length = n + 1) := by unfold Hid; simp [h.nat_len]
  have hone : Hid (([Value.int .i64 (x : Int)] : List Value).length = 1) := rfl
  have cc := fun (A2 : Option Addr) (k2 : Nat) (w2 : World) (h2 : Reads w2 w2.heap.size A2 (n + 1) (vi .i64 ((x : Int) :: l.map (fun x : Nat => (x : Int))))) => field_Check A2 (n + 1) k2 ((x : Int) :: l.map (fun x : Nat => (x : Int))) 0 w2 h2 (by unfold maxLen; omega) hz
  have cv := fun (w2 : World) (hb : Below w.heap.size w w2) => field_Value A n c l x w2 ((h.below hb).more hb.size) (by omega) hl hx
  generalize horn x l = y at *
  go_enter Try.func21, Try.ntmps21
  go_wp2_with (first | (at_builtin; refine appN el_intP rfl _ _ rfl rfl hoA rfl hrA (one_viP _) (by rw [hone.out]; unfold maxLen; omega) (by rw [hone.out]; omega) hbA.size ?_; clear hoA hrA; intro v2 w2 ho2 hb2 _ _; obtain ⟨A2, k2, e2⟩ := ho2.form; rw [hlen.out] at e2; subst e2; have cc := cc A2 k2 w2 ho2.reads) | (go_at_call 40; refine cc.mono ?_; clear cc; rintro e w' ⟨rfl, m, rfl⟩; have hb3 : Below w.heap.size w (w2.drewN m) := below_drewN (hbA.trans hb2) _; have cv := cv _ hb3) | (go_at_call 44; refine cv.mono ?_; rintro e w4 ⟨rfl, hb4⟩))
  go_ret2
  exact ⟨rfl, hb3.trans (hb4.mono hb3.size)⟩
set_option maxHeartbeats 600000 in
theorem FieldAts_walk (A : Option Addr) (n c : Nat) (l : List Int) (x : Int) (w : World) (h : Reads w w.heap.size A n (vi .i64 l)) (_ : ∀ z ∈ l, (Lit.int .i64 z).wf = true) (hm : n * 8 ≤ reachBytes) (_ : (Lit.int .i64 x).wf = true) :
    Calls Try.prog 6 #[.slice A n c, .int .i64 x] w (LawTrue w) := by
  have hn : n * 8 ≤ 140737488351232 := by have := reachBytes_lt; unfold reachBytes at hm; omega
  clear hm
  have H := Lib.hid h.int_len
  have hlen : Hid (([Value.int .i64 x] ++ vi .i64 l).length = n + 1) := by unfold Hid; simp [h.int_len]
  have hone : Hid (([Value.int .i64 x] : List Value).length = 1) := rfl
  have hap := fun (w1 : World) (hb1 : Below w.heap.size w w1) => (⟨Own.built w1 #[.int .i64 x] 1 rfl (by unfold maxLen; omega) (Nat.le_refl _), ((h.below hb1).more hb1.size).alloc (Nat.le_refl _) _, (Below.refl _ _).alloc (Nat.le_refl _) _⟩ : Own (w1.alloc (.cells #[.int .i64 x] 3)) w1.heap.size 3 (.slice (some ⟨w1.heap.size, 0, none⟩) 1 1) [.int .i64 x] ∧ Reads (w1.alloc (.cells #[.int .i64 x] 3)) w1.heap.size A n (vi .i64 l) ∧ Below w1.heap.size w1 (w1.alloc (.cells #[.int .i64 x] 3)))
  by_cases h0 : fldErr (x :: l) = 0
  · have cc := fun (A2 : Option Addr) (k2 : Nat) (w2 : World) (h2 : Reads w2 w2.heap.size A2 (n + 1) (vi .i64 (x :: l))) => ref_FieldCheck A2 (n + 1) k2 (x :: l) 0 w2 h2 (by unfold maxLen; omega) h0
    by_cases h64 : 64 < n
    · have c1 := field_At_long A n c l x w h hn h0 h64
      clear h0
      go_enter Try.func6, Try.ntmps6
      go_wp2_with (first | (go_at_call 21; refine c1.mono ?_; clear c1; rintro e w1 ⟨rfl, hb1⟩; obtain ⟨hoA, hrA, hbA⟩ := hap w1 hb1; clear hap) | (at_builtin; refine appN el_intP rfl _ _ rfl rfl hoA rfl hrA (one_viP l) (by rw [hone.out]; unfold maxLen; omega) (by rw [hone.out]; omega) hbA.size ?_; clear hoA hrA; intro v2 w2 ho2 hb2 _ _; obtain ⟨A2, k2, e2⟩ := ho2.form; rw [hlen.out] at e2; subst e2; have cc := cc A2 k2 w2 ho2.reads) | (go_at_call 15; refine cc.mono ?_; rintro e w' ⟨rfl, rfl⟩))
      go_ret
      exact ⟨rfl, hb1.trans ((hbA.trans hb2).mono hb1.size)⟩
    · obtain ⟨l', e1, e2, hl⟩ := fldErr_nats h0
      cases l' with
      | nil => simp at e1
      | cons x' l' =>
        rw [List.map_cons] at e1
        injection e1 with e1 e3
        subst e1
        subst e3
        have hr := h
        rw [vi_vnP] at hr
        have hx16 := hl x' (List.mem_cons_self ..)
        have hl16 : ∀ z ∈ l', z < 16 := fun z hz => hl z (List.mem_cons_of_mem _ hz)
        have c1 := field_At A n c l' x' w hr hl16 hx16 (by omega)
        have c2 := fun (w2 : World) (hb : Below w.heap.size w w2) => ref_Value A n c l' x' w2 (hr.below hb) (by omega) hl16 hx16
        clear h0 e2 hl hl16
        generalize horn x' l' = y at *
        go_enter Try.func6, Try.ntmps6
        go_wp2_with (first | (go_at_call 21; refine c1.mono ?_; clear c1; rintro e w1 ⟨rfl, hb1⟩; obtain ⟨hoA, hrA, hbA⟩ := hap w1 hb1; clear hap) | (at_builtin; refine appN el_intP rfl _ _ rfl rfl hoA rfl hrA (one_viP _) (by rw [hone.out]; unfold maxLen; omega) (by rw [hone.out]; omega) hbA.size ?_; clear hoA hrA; intro v2 w2 ho2 hb2 _ _; obtain ⟨A2, k2, e2⟩ := ho2.form; rw [hlen.out] at e2; subst e2; have cc := cc A2 k2 w2 ho2.reads; have hb3 := hb1.trans ((hbA.trans hb2).mono hb1.size); have c2 := c2 w2 hb3) | (go_at_call 15; refine cc.mono ?_; rintro e w' ⟨rfl, rfl⟩) | (go_at_call 22; refine c2.mono ?_; rintro e w' ⟨rfl, rfl⟩))
        go_ret
        exact ⟨rfl, hb3⟩
  · have hz : (fldErr (x :: l) != 0) = true := by simpa using h0
    have hz2 : (fldErr (x :: l) == 0) = false := by simpa using h0
    have cc := fun (A2 : Option Addr) (k2 : Nat) (w2 : World) (h2 : Reads w2 w2.heap.size A2 (n + 1) (vi .i64 (x :: l))) => ref_FieldCheck A2 (n + 1) k2 (x :: l) (fldErr (x :: l)) w2 h2 (by unfold maxLen; omega) rfl
    have c1 := field_At_err A n c l x (fldErr (x :: l)) w h hn rfl hz
    clear h0
    generalize fldErr (x :: l) = z at *
    go_enter Try.func6, Try.ntmps6
    go_wp2_with (first | (go_at_call 21; refine c1.mono ?_; clear c1; rintro e w1 ⟨rfl, hb1⟩; obtain ⟨hoA, hrA, hbA⟩ := hap w1 hb1; clear hap) | (at_builtin; refine appN el_intP rfl _ _ rfl rfl hoA rfl hrA (one_viP l) (by rw [hone.out]; unfold maxLen; omega) (by rw [hone.out]; omega) hbA.size ?_; clear hoA hrA; intro v2 w2 ho2 hb2 _ _; obtain ⟨A2, k2, e2⟩ := ho2.form; rw [hlen.out] at e2; subst e2; have cc := cc A2 k2 w2 ho2.reads) | (go_at_call 15; refine cc.mono ?_; rintro e w' ⟨rfl, rfl⟩))
    go_ret
    exact ⟨rfl, hb1.trans ((hbA.trans hb2).mono hb1.size)⟩
end Go.Proofs.Ythbmnaonnebnhaa

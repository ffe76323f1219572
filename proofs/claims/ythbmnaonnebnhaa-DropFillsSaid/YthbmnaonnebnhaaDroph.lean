/-
  quipuref.Drops, DropFills.
-/
import Derived.Test.YthbmnaonnebnhaaDropg
import Derived.Test.YthbmnaonnebnhaaStep
import Derived.Test.YthbmnaonnebnhaaBools
import Derived.Test.YthbmnaonnebnhaaOwnr
import Derived.Test.YthbmnaonnebnhaaRestg
set_option linter.unusedVariables false
namespace Go.Proofs.Ythbmnaonnebnhaa
open Go.RowKit

/-- the list that was found -/
def RetLB (w : World) (l : List Bool) (e : Ending) (w' : World) : Prop :=
  ∃ A n c, e = .returned (.tuple #[.slice A n c, .bool true]) ∧ Reads w' w'.heap.size A n (vb l) ∧ Below w.heap.size w w'
theorem reads_dropD {w : World} {B n k : Nat} {ad : Addr} {l : List Bool} (h : Reads w B (some ad) n (vb l)) (hk : k ≤ n) : Reads w B (some (ad.add k)) (n - k) (vb (l.drop k)) := by
  refine ⟨by rw [List.length_map, List.length_drop]; have := h.len; rw [List.length_map] at this; omega, fun h0 => ?_⟩
  obtain ⟨a, e, hb, hc⟩ := h.cells (by omega)
  injection e with e; subst e
  refine ⟨_, rfl, by rw [block_of_add]; exact hb, fun j u hu => ?_⟩
  rw [add_of_add]
  refine hc _ u ?_
  rw [List.getElem?_map, List.getElem?_drop, ← List.getElem?_map] at hu
  exact hu
set_option maxRecDepth 100000 in
set_option maxHeartbeats 3200000 in
theorem ref_Drops_some (ad : Addr) (n c k0 : Nat) (b0 : Bool) (a : Int) (l : List Bool) (w : World) (h : Reads w w.heap.size (some ad) n (vb l)) (hcap : n ≤ c) (hn : n ≤ 11) (hk0 : k0 ≤ n) (ha : Hid (placesOf (insL l k0 b0) = a)) :
    Calls Try.prog 39 #[.int .i64 a, .slice (some ad) n c] w (RetLB w (insL l k0 b0)) := by
  have H := Lib.hid h.bool_len
  obtain ⟨z0, hz0⟩ : ∃ z : Nat, z = if b0 then 1 else 0 := ⟨_, rfl⟩
  have HZ0 := Lib.hid hz0
  have hz01 : z0 ≤ 1 := by rw [hz0]; split <;> omega
  clear hz0
  go_enter Try.func39, Try.ntmps39
  go_wp2
  go_loopw [6] (fun kv wr => ∃ k : Nat, k ≤ k0 ∧ kv = .int .i64 k ∧ Below w.heap.size w wr) (fun kv _ => n + 1 - (intOf kv).toNat)
  case atStart => exact ⟨0, by omega, rfl, Below.refl _ _⟩
  case round =>
    obtain ⟨k, hk, rfl, hbel⟩ := hrel
    have i1 : (k : Int) ≤ (n : Int) := by omega
    go_wp2
    go_loopw [7] (fun bv wr => ∃ z : Nat, (k < k0 ∧ z ≤ 2 ∨ z ≤ z0) ∧ z ≤ 2 ∧ bv = .int .i64 z ∧ Below w.heap.size w wr) (fun bv _ => 2 - (intOf bv).toNat)
    case atStart => exact ⟨0, by omega, by omega, rfl, hbel⟩
    case round =>
      clear hbel
      obtain ⟨z, hz, hz2, rfl, hbel⟩ := hrel
      by_cases hlt : z < 2
      · have j1 : (z : Int) < 2 := by omega
        have j2 : (k : Int) ≤ (c : Int) := by omega
        have j3 : k ≤ c := by omega
        have j4 : (0 : Int) ≤ (k : Int) := by omega
        have j5 : k ≤ n := by omega
        have j6 : (k : Int) ≤ (n : Int) := by omega
        obtain ⟨b, hb⟩ : ∃ b, ((z : Int) == 1) = b := ⟨_, rfl⟩
        have hbz : b = decide (z = 1) := by rw [← hb, Bool.eq_iff_iff]; simp; omega
        obtain ⟨p, hp⟩ : ∃ p, placesOf (insL l k b) = p := ⟨_, rfl⟩
        have HPP := Lib.hid hp
        have hzn : p ≠ a → (k < k0 ∧ z + 1 ≤ 2 ∨ z + 1 ≤ z0) := by
          intro hne
          rcases hz with h1 | h1
          · left; omega
          · by_cases hkk : k < k0
            · left; omega
            · obtain rfl : k = k0 := by omega
              right
              rcases Nat.lt_or_ge z z0 with h2 | h2
              · omega
              · exfalso
                apply hne
                rw [← hp, ← ha.out, hbz]
                congr 2
                have h3 : z = z0 := by omega
                rw [h3, HZ0.out]
                cases b0 <;> rfl
        have hLI : Hid ((insL l k b).length = n + 1) := by unfold Hid; rw [insL_len b (by rw [H.out]; exact j5), H.out]
        have hIN : Hid (vb (l.take k) ++ vb [b] ++ vb (l.drop k) = vb (insL l k b)) := by unfold Hid vb insL; simp
        clear hp hbz
        by_cases hck : c = k
        · obtain rfl : k = c := hck.symm
          have hSrc : ∀ W : World, Below w.heap.size w W → Reads W w.heap.size (some ad) (n - k) (vb (l.drop k)) := by
              intro W _
              have e : l.drop k = [] := List.drop_eq_nil_of_le (by rw [H.out]; omega)
              rw [e, show n - k = 0 by omega]
              exact ⟨rfl, fun h => absurd h (by omega)⟩
          by_cases hpa : p = a
          ·
            have HEQ : Hid (insL l k b = insL l k0 b0) := ins_uniq (by rw [H.out]; exact j5) (by rw [H.out]; exact hk0) (by rw [HPP.out, hpa, ha.out])
            have j9 : (p == a) = true := by simpa using hpa
            clear hpa hzn
            go_wp2
            refine wp_region_any (by kernel_rfl) ?_
            try (change wpAny _ _ _ _ _ _ _ (World.drew _))
            obtain ⟨wd, hwd⟩ : ∃ wd, wd = wr.drew := ⟨_, rfl⟩
            rw [← hwd]
            have hbD : Below w.heap.size w wd := by rw [hwd]; exact hbel.drew
            clear hwd
            have hsz := hbD.size
            (refine wpAny_take (i := 1) (v := ?_) rfl (by kernel_rfl) (by kernel_rfl) (by kernel_rfl) (fun _ _ _ h => h) (Or.inl ⟨by first | (go_simp; done) | rfl, ?_⟩) ?_; rotate_left 1; (intro w; go_simp; try rfl))
            (refine wpAny_take (i := 2) (v := ?_) rfl (by kernel_rfl) (by kernel_rfl) (by kernel_rfl) (fun _ _ _ h => h) (Or.inl ⟨by first | (go_simp; done) | rfl, ?_⟩) ?_; rotate_left 1; (intro w; go_simp; try rfl))
            (refine wpAny_take (i := 3) (v := ?_) rfl (by kernel_rfl) (by kernel_rfl) (by kernel_rfl) (fun _ _ _ h => h) (Or.inl ⟨by first | (go_simp; done) | rfl, ?_⟩) ?_; rotate_left 1; (intro w; go_simp; try rfl))
            (refine wpAny_take (i := 5) (v := ?_) rfl (by kernel_rfl) (by kernel_rfl) (by kernel_rfl) (fun _ _ _ h => h) (Or.inl ⟨by first | (go_simp; done) | rfl, ?_⟩) ?_; rotate_left 1; (intro w; go_simp; try rfl))
            (refine wpAny_take (i := 6) (v := ?_) rfl (by kernel_rfl) (by kernel_rfl) (by kernel_rfl) (fun _ _ _ h => h) (Or.inl ⟨by first | (go_simp; done) | rfl, ?_⟩) ?_; rotate_left 1; (intro w; go_simp; try rfl))
            (refine wpAny_take (i := 9) (v := ?_) rfl (by kernel_rfl) (by kernel_rfl) (by kernel_rfl) (fun _ _ _ h => h) (Or.inl ⟨by first | (go_simp; done) | rfl, ?_⟩) ?_; rotate_left 1; (intro w; go_simp; try rfl))
            (refine wpAny_take (i := 10) (v := ?_) rfl (by kernel_rfl) (by kernel_rfl) (by kernel_rfl) (fun _ _ _ h => h) (Or.inl ⟨by first | (go_simp; done) | rfl, ?_⟩) ?_; rotate_left 1; (intro w; go_simp; try rfl))
            (refine wpAny_take (i := 11) (v := ?_) rfl (by kernel_rfl) (by kernel_rfl) (by kernel_rfl) (fun _ _ _ h => h) (Or.inl ⟨by first | (go_simp; done) | rfl, ?_⟩) ?_; rotate_left 1; (intro w; go_simp; try rfl))
            refine wpAny_ready (rs := [0, 7]) (by kernel_rfl) (by simp) ?_
            refine (AllReady.cons rfl (fun K hK => ?_) (AllReady.cons rfl (fun K hK => ?_) AllReady.nil))
            ·
              go_simp
              refine hK _ _ ?_
              clear hK K
              refine wpAny_ready (rs := [4, 7]) (by kernel_rfl) (by simp) ?_
              refine (AllReady.cons rfl (fun K hK => ?_) (AllReady.cons rfl (fun K hK => ?_) AllReady.nil))
              ·
                have hoE : Own (wd.alloc (.cells #[] 4)) wd.heap.size 4 (.slice (some ⟨wd.heap.size, 0, none⟩) 0 0) [] := Own.built (wd) #[] 0 rfl (by unfold maxLen; omega) (Nat.le_refl _)
                have hbE : Below w.heap.size w (wd.alloc (.cells #[] 4)) := hbD.alloc hsz _
                have hF := ((h.takeB (k := k) j5)).below hbE
                refine step_appG el_clone_bools rfl (.tmp 19) (.tmp 22) rfl (by first | rfl | go_simp) hoE (by first | rfl | (go_simp; done) | (go_simp; rfl)) hF (one_vbI _) (by show 0 + k ≤ maxLen; unfold maxLen; omega) (by show (0 + k) * 1 ≤ _; omega) (by simp) ?_
                intro v3 w3 ho3 hg3 hat3
                try go_simp
                try (refine hK _ _ ?_; clear hK K)
                rw [List.nil_append] at ho3
                have hb3 : Below w.heap.size w w3 := hbE.grown hg3 (by first | (simp; done) | (simp; omega)) (fun j hj => by have := (hoE.lt j hj).1; omega)
                have hs0 : w.heap.size ≤ wd.heap.size := hsz
                have hbs3 : wd.heap.size ≤ w3.heap.size := by have := hg3.size; simp at this; omega
                have hl3 : (vb (l.take k)).length = k := by rw [List.length_map, List.length_take, H.out]; omega
                refine wpAny_ready (rs := [7]) (by kernel_rfl) (by simp) ?_
                refine (AllReady.cons rfl (fun K hK => ?_) AllReady.nil)
                ·
                  go_simp
                  refine hK _ _ ?_
                  clear hK K
                  have hr26 : Reads (w3.alloc (.cells #[.bool b] 4)) (w3.heap.size + 1) (some ⟨w3.heap.size, 0, none⟩) 1 (vb [b]) := reads_lay w3 #[.bool b] 4 1 rfl
                  have ho3 := ho3.alloc (.cells #[.bool b] 4)
                  have hb3 := hb3.alloc hb3.size (.cells #[.bool b] 4)
                  have hbs3 : wd.heap.size ≤ (w3.alloc (.cells #[.bool b] 4)).heap.size := by simp; omega
                  refine wpAny_ready (rs := [8]) (by kernel_rfl) (by simp) ?_
                  refine (AllReady.cons rfl (fun K hK => ?_) AllReady.nil)
                  ·
                    refine step_appG el_clone_bools rfl (.tmp 23) (.tmp 26) rfl (by first | rfl | go_simp) ho3 (by first | rfl | (go_simp; done) | (go_simp; rfl)) hr26 (one_vbI _) (by rw [hl3]; unfold maxLen; omega) (by rw [hl3]; omega) hbs3 ?_
                    intro v4 w4 ho4 hg4 hat4
                    try go_simp
                    try (refine hK _ _ ?_; clear hK K)
                    have hb4 : Below w.heap.size w w4 := hb3.grown hg4 hb3.size (fun j hj => Nat.le_trans hs0 (ho3.lt j hj).1)
                    have hl4 : (vb (l.take k) ++ vb [b]).length = k + 1 := by rw [List.length_append, hl3]; rfl
                    refine wpAny_ready (rs := [12]) (by kernel_rfl) (by simp) ?_
                    refine (AllReady.cons rfl (fun K hK => ?_) AllReady.nil)
                    ·
                      refine step_appG el_clone_bools rfl (.tmp 27) (.tmp 30) rfl (by first | rfl | go_simp) ho4 (by first | rfl | (go_simp; done) | (go_simp; rfl)) (hSrc w4 hb4) (one_vbI _) (by rw [hl4]; unfold maxLen; omega) (by rw [hl4]; omega) (Nat.le_trans hbs3 hg4.size) ?_
                      intro v5 w5 ho5 hg5 hat5
                      try go_simp
                      try (refine hK _ _ ?_; clear hK K)
                      have hbW5 : Below w.heap.size w w5 := hb4.grown hg5 hb4.size (fun j hj => Nat.le_trans hs0 (ho4.lt j hj).1)
                      rw [hIN.out] at ho5
                      (refine wpAny_take (i := 13) (v := ?_) rfl (by kernel_rfl) (by kernel_rfl) (by kernel_rfl) (fun _ _ _ h => h) (Or.inl ⟨by first | (go_simp; done) | rfl, ?_⟩) ?_; rotate_left 1; (intro w; go_simp; try rfl))
                      refine wpAny_done (by kernel_rfl) ?_ _
                      obtain ⟨A5, c5, e5⟩ := ho5.form
                      rw [List.length_map, hLI.out] at e5
                      subst e5
                      have hbw : Below w.heap.size w w5 := hbW5
                      have cP := ref_Places A5 (n + 1) c5 (insL l k b) p w5 ho5.reads (by omega) HPP
                      go_wp2_with (go_at_call 67; refine cP.mono ?_; clear cP; rintro e w6 ⟨rfl, rfl⟩)
                      go_ret2
                      exact ⟨A5, n + 1, c5, rfl, by rw [← HEQ.out]; exact ho5.reads, hbw⟩
              ·
                go_simp
                refine hK _ _ ?_
                clear hK K
                have hoE : Own ((wd.alloc (.cells #[] 4)).alloc (.cells #[.bool b] 4)) wd.heap.size 4 (.slice (some ⟨wd.heap.size, 0, none⟩) 0 0) [] := (Own.built (wd) #[] 0 rfl (by unfold maxLen; omega) (Nat.le_refl _)).alloc _
                have hbE : Below w.heap.size w ((wd.alloc (.cells #[] 4)).alloc (.cells #[.bool b] 4)) := (hbD.alloc hsz _).alloc (by simp; omega) _
                have hF := ((h.takeB (k := k) j5)).below hbE
                have hrB : Reads ((wd.alloc (.cells #[] 4)).alloc (.cells #[.bool b] 4)) (wd.heap.size + 2) (some ⟨wd.heap.size + 1, 0, none⟩) 1 (vb [b]) := by have := reads_lay (wd.alloc (.cells #[] 4)) #[.bool b] 4 1 rfl; simpa using this
                refine wpAny_ready (rs := [4]) (by kernel_rfl) (by simp) ?_
                refine (AllReady.cons rfl (fun K hK => ?_) AllReady.nil)
                ·
                  refine step_appG el_clone_bools rfl (.tmp 19) (.tmp 22) rfl (by first | rfl | go_simp) hoE (by first | rfl | (go_simp; done) | (go_simp; rfl)) hF (one_vbI _) (by show 0 + k ≤ maxLen; unfold maxLen; omega) (by show (0 + k) * 1 ≤ _; omega) (by first | (simp; done) | (simp; omega)) ?_
                  intro v3 w3 ho3 hg3 hat3
                  try go_simp
                  try (refine hK _ _ ?_; clear hK K)
                  rw [List.nil_append] at ho3
                  have hb3 : Below w.heap.size w w3 := hbE.grown hg3 (by first | (simp; done) | (simp; omega)) (fun j hj => by have := (hoE.lt j hj).1; omega)
                  have hs0 : w.heap.size ≤ wd.heap.size := hsz
                  have hbs3 : wd.heap.size ≤ w3.heap.size := by have := hg3.size; simp at this; omega
                  have hl3 : (vb (l.take k)).length = k := by rw [List.length_map, List.length_take, H.out]; omega
                  have hr26 : Reads w3 (wd.heap.size + 2) (some ⟨wd.heap.size + 1, 0, none⟩) 1 (vb [b]) := hrB.keepNe hg3 (by simp) (fun ad e e2 => by injection e with e; subst e; have e3 : some wd.heap.size = some (wd.heap.size + 1) := e2; injection e3 with e3; omega)
                  refine wpAny_ready (rs := [8]) (by kernel_rfl) (by simp) ?_
                  refine (AllReady.cons rfl (fun K hK => ?_) AllReady.nil)
                  ·
                    refine step_appG el_clone_bools rfl (.tmp 23) (.tmp 26) rfl (by first | rfl | go_simp) ho3 (by first | rfl | (go_simp; done) | (go_simp; rfl)) hr26 (one_vbI _) (by rw [hl3]; unfold maxLen; omega) (by rw [hl3]; omega) hbs3 ?_
                    intro v4 w4 ho4 hg4 hat4
                    try go_simp
                    try (refine hK _ _ ?_; clear hK K)
                    have hb4 : Below w.heap.size w w4 := hb3.grown hg4 hb3.size (fun j hj => Nat.le_trans hs0 (ho3.lt j hj).1)
                    have hl4 : (vb (l.take k) ++ vb [b]).length = k + 1 := by rw [List.length_append, hl3]; rfl
                    refine wpAny_ready (rs := [12]) (by kernel_rfl) (by simp) ?_
                    refine (AllReady.cons rfl (fun K hK => ?_) AllReady.nil)
                    ·
                      refine step_appG el_clone_bools rfl (.tmp 27) (.tmp 30) rfl (by first | rfl | go_simp) ho4 (by first | rfl | (go_simp; done) | (go_simp; rfl)) (hSrc w4 hb4) (one_vbI _) (by rw [hl4]; unfold maxLen; omega) (by rw [hl4]; omega) (Nat.le_trans hbs3 hg4.size) ?_
                      intro v5 w5 ho5 hg5 hat5
                      try go_simp
                      try (refine hK _ _ ?_; clear hK K)
                      have hbW5 : Below w.heap.size w w5 := hb4.grown hg5 hb4.size (fun j hj => Nat.le_trans hs0 (ho4.lt j hj).1)
                      rw [hIN.out] at ho5
                      (refine wpAny_take (i := 13) (v := ?_) rfl (by kernel_rfl) (by kernel_rfl) (by kernel_rfl) (fun _ _ _ h => h) (Or.inl ⟨by first | (go_simp; done) | rfl, ?_⟩) ?_; rotate_left 1; (intro w; go_simp; try rfl))
                      refine wpAny_done (by kernel_rfl) ?_ _
                      obtain ⟨A5, c5, e5⟩ := ho5.form
                      rw [List.length_map, hLI.out] at e5
                      subst e5
                      have hbw : Below w.heap.size w w5 := hbW5
                      have cP := ref_Places A5 (n + 1) c5 (insL l k b) p w5 ho5.reads (by omega) HPP
                      go_wp2_with (go_at_call 67; refine cP.mono ?_; clear cP; rintro e w6 ⟨rfl, rfl⟩)
                      go_ret2
                      exact ⟨A5, n + 1, c5, rfl, by rw [← HEQ.out]; exact ho5.reads, hbw⟩
            ·
              go_simp
              refine hK _ _ ?_
              clear hK K
              refine wpAny_ready (rs := [0]) (by kernel_rfl) (by simp) ?_
              refine (AllReady.cons rfl (fun K hK => ?_) AllReady.nil)
              ·
                go_simp
                refine hK _ _ ?_
                clear hK K
                have hoE : Own ((wd.alloc (.cells #[.bool b] 4)).alloc (.cells #[] 4)) (wd.heap.size + 1) 4 (.slice (some ⟨wd.heap.size + 1, 0, none⟩) 0 0) [] := by have := Own.built (E := 4) (base := wd.heap.size + 1) (wd.alloc (.cells #[.bool b] 4)) #[] 0 rfl (by unfold maxLen; omega) (by simp); simpa using this
                have hbE : Below w.heap.size w ((wd.alloc (.cells #[.bool b] 4)).alloc (.cells #[] 4)) := (hbD.alloc hsz _).alloc (by simp; omega) _
                have hF := ((h.takeB (k := k) j5)).below hbE
                have hrB : Reads ((wd.alloc (.cells #[.bool b] 4)).alloc (.cells #[] 4)) (wd.heap.size + 1) (some ⟨wd.heap.size, 0, none⟩) 1 (vb [b]) := (by have := reads_lay wd #[.bool b] 4 1 rfl; exact this.alloc (by simp) _)
                refine wpAny_ready (rs := [4]) (by kernel_rfl) (by simp) ?_
                refine (AllReady.cons rfl (fun K hK => ?_) AllReady.nil)
                ·
                  refine step_appG el_clone_bools rfl (.tmp 19) (.tmp 22) rfl (by first | rfl | go_simp) hoE (by first | rfl | (go_simp; done) | (go_simp; rfl)) hF (one_vbI _) (by show 0 + k ≤ maxLen; unfold maxLen; omega) (by show (0 + k) * 1 ≤ _; omega) (by first | (simp; done) | (simp; omega)) ?_
                  intro v3 w3 ho3 hg3 hat3
                  try go_simp
                  try (refine hK _ _ ?_; clear hK K)
                  rw [List.nil_append] at ho3
                  have hb3 : Below w.heap.size w w3 := hbE.grown hg3 (by first | (simp; done) | (simp; omega)) (fun j hj => by have := (hoE.lt j hj).1; omega)
                  have hs0 : w.heap.size ≤ wd.heap.size + 1 := by omega
                  have hbs3 : wd.heap.size + 1 ≤ w3.heap.size := by have := hg3.size; simp at this; omega
                  have hl3 : (vb (l.take k)).length = k := by rw [List.length_map, List.length_take, H.out]; omega
                  have hr26 : Reads w3 (wd.heap.size + 1) (some ⟨wd.heap.size, 0, none⟩) 1 (vb [b]) := hrB.keepNe hg3 (by simp) (fun ad e e2 => by injection e with e; subst e; have e3 : some (wd.heap.size + 1) = some wd.heap.size := e2; injection e3 with e3; omega)
                  refine wpAny_ready (rs := [8]) (by kernel_rfl) (by simp) ?_
                  refine (AllReady.cons rfl (fun K hK => ?_) AllReady.nil)
                  ·
                    refine step_appG el_clone_bools rfl (.tmp 23) (.tmp 26) rfl (by first | rfl | go_simp) ho3 (by first | rfl | (go_simp; done) | (go_simp; rfl)) hr26 (one_vbI _) (by rw [hl3]; unfold maxLen; omega) (by rw [hl3]; omega) hbs3 ?_
                    intro v4 w4 ho4 hg4 hat4
                    try go_simp
                    try (refine hK _ _ ?_; clear hK K)
                    have hb4 : Below w.heap.size w w4 := hb3.grown hg4 hb3.size (fun j hj => Nat.le_trans hs0 (ho3.lt j hj).1)
                    have hl4 : (vb (l.take k) ++ vb [b]).length = k + 1 := by rw [List.length_append, hl3]; rfl
                    refine wpAny_ready (rs := [12]) (by kernel_rfl) (by simp) ?_
                    refine (AllReady.cons rfl (fun K hK => ?_) AllReady.nil)
                    ·
                      refine step_appG el_clone_bools rfl (.tmp 27) (.tmp 30) rfl (by first | rfl | go_simp) ho4 (by first | rfl | (go_simp; done) | (go_simp; rfl)) (hSrc w4 hb4) (one_vbI _) (by rw [hl4]; unfold maxLen; omega) (by rw [hl4]; omega) (Nat.le_trans hbs3 hg4.size) ?_
                      intro v5 w5 ho5 hg5 hat5
                      try go_simp
                      try (refine hK _ _ ?_; clear hK K)
                      have hbW5 : Below w.heap.size w w5 := hb4.grown hg5 hb4.size (fun j hj => Nat.le_trans hs0 (ho4.lt j hj).1)
                      rw [hIN.out] at ho5
                      (refine wpAny_take (i := 13) (v := ?_) rfl (by kernel_rfl) (by kernel_rfl) (by kernel_rfl) (fun _ _ _ h => h) (Or.inl ⟨by first | (go_simp; done) | rfl, ?_⟩) ?_; rotate_left 1; (intro w; go_simp; try rfl))
                      refine wpAny_done (by kernel_rfl) ?_ _
                      obtain ⟨A5, c5, e5⟩ := ho5.form
                      rw [List.length_map, hLI.out] at e5
                      subst e5
                      have hbw : Below w.heap.size w w5 := hbW5
                      have cP := ref_Places A5 (n + 1) c5 (insL l k b) p w5 ho5.reads (by omega) HPP
                      go_wp2_with (go_at_call 67; refine cP.mono ?_; clear cP; rintro e w6 ⟨rfl, rfl⟩)
                      go_ret2
                      exact ⟨A5, n + 1, c5, rfl, by rw [← HEQ.out]; exact ho5.reads, hbw⟩
          ·
            have j9 : (p == a) = false := by simpa using hpa
            have hzn := hzn hpa
            clear hpa
            go_wp2
            refine wp_region_any (by kernel_rfl) ?_
            try (change wpAny _ _ _ _ _ _ _ (World.drew _))
            obtain ⟨wd, hwd⟩ : ∃ wd, wd = wr.drew := ⟨_, rfl⟩
            rw [← hwd]
            have hbD : Below w.heap.size w wd := by rw [hwd]; exact hbel.drew
            clear hwd
            have hsz := hbD.size
            (refine wpAny_take (i := 1) (v := ?_) rfl (by kernel_rfl) (by kernel_rfl) (by kernel_rfl) (fun _ _ _ h => h) (Or.inl ⟨by first | (go_simp; done) | rfl, ?_⟩) ?_; rotate_left 1; (intro w; go_simp; try rfl))
            (refine wpAny_take (i := 2) (v := ?_) rfl (by kernel_rfl) (by kernel_rfl) (by kernel_rfl) (fun _ _ _ h => h) (Or.inl ⟨by first | (go_simp; done) | rfl, ?_⟩) ?_; rotate_left 1; (intro w; go_simp; try rfl))
            (refine wpAny_take (i := 3) (v := ?_) rfl (by kernel_rfl) (by kernel_rfl) (by kernel_rfl) (fun _ _ _ h => h) (Or.inl ⟨by first | (go_simp; done) | rfl, ?_⟩) ?_; rotate_left 1; (intro w; go_simp; try rfl))
            (refine wpAny_take (i := 5) (v := ?_) rfl (by kernel_rfl) (by kernel_rfl) (by kernel_rfl) (fun _ _ _ h => h) (Or.inl ⟨by first | (go_simp; done) | rfl, ?_⟩) ?_; rotate_left 1; (intro w; go_simp; try rfl))
            (refine wpAny_take (i := 6) (v := ?_) rfl (by kernel_rfl) (by kernel_rfl) (by kernel_rfl) (fun _ _ _ h => h) (Or.inl ⟨by first | (go_simp; done) | rfl, ?_⟩) ?_; rotate_left 1; (intro w; go_simp; try rfl))
            (refine wpAny_take (i := 9) (v := ?_) rfl (by kernel_rfl) (by kernel_rfl) (by kernel_rfl) (fun _ _ _ h => h) (Or.inl ⟨by first | (go_simp; done) | rfl, ?_⟩) ?_; rotate_left 1; (intro w; go_simp; try rfl))
            (refine wpAny_take (i := 10) (v := ?_) rfl (by kernel_rfl) (by kernel_rfl) (by kernel_rfl) (fun _ _ _ h => h) (Or.inl ⟨by first | (go_simp; done) | rfl, ?_⟩) ?_; rotate_left 1; (intro w; go_simp; try rfl))
            (refine wpAny_take (i := 11) (v := ?_) rfl (by kernel_rfl) (by kernel_rfl) (by kernel_rfl) (fun _ _ _ h => h) (Or.inl ⟨by first | (go_simp; done) | rfl, ?_⟩) ?_; rotate_left 1; (intro w; go_simp; try rfl))
            refine wpAny_ready (rs := [0, 7]) (by kernel_rfl) (by simp) ?_
            refine (AllReady.cons rfl (fun K hK => ?_) (AllReady.cons rfl (fun K hK => ?_) AllReady.nil))
            ·
              go_simp
              refine hK _ _ ?_
              clear hK K
              refine wpAny_ready (rs := [4, 7]) (by kernel_rfl) (by simp) ?_
              refine (AllReady.cons rfl (fun K hK => ?_) (AllReady.cons rfl (fun K hK => ?_) AllReady.nil))
              ·
                have hoE : Own (wd.alloc (.cells #[] 4)) wd.heap.size 4 (.slice (some ⟨wd.heap.size, 0, none⟩) 0 0) [] := Own.built (wd) #[] 0 rfl (by unfold maxLen; omega) (Nat.le_refl _)
                have hbE : Below w.heap.size w (wd.alloc (.cells #[] 4)) := hbD.alloc hsz _
                have hF := ((h.takeB (k := k) j5)).below hbE
                refine step_appG el_clone_bools rfl (.tmp 19) (.tmp 22) rfl (by first | rfl | go_simp) hoE (by first | rfl | (go_simp; done) | (go_simp; rfl)) hF (one_vbI _) (by show 0 + k ≤ maxLen; unfold maxLen; omega) (by show (0 + k) * 1 ≤ _; omega) (by simp) ?_
                intro v3 w3 ho3 hg3 hat3
                try go_simp
                try (refine hK _ _ ?_; clear hK K)
                rw [List.nil_append] at ho3
                have hb3 : Below w.heap.size w w3 := hbE.grown hg3 (by first | (simp; done) | (simp; omega)) (fun j hj => by have := (hoE.lt j hj).1; omega)
                have hs0 : w.heap.size ≤ wd.heap.size := hsz
                have hbs3 : wd.heap.size ≤ w3.heap.size := by have := hg3.size; simp at this; omega
                have hl3 : (vb (l.take k)).length = k := by rw [List.length_map, List.length_take, H.out]; omega
                refine wpAny_ready (rs := [7]) (by kernel_rfl) (by simp) ?_
                refine (AllReady.cons rfl (fun K hK => ?_) AllReady.nil)
                ·
                  go_simp
                  refine hK _ _ ?_
                  clear hK K
                  have hr26 : Reads (w3.alloc (.cells #[.bool b] 4)) (w3.heap.size + 1) (some ⟨w3.heap.size, 0, none⟩) 1 (vb [b]) := reads_lay w3 #[.bool b] 4 1 rfl
                  have ho3 := ho3.alloc (.cells #[.bool b] 4)
                  have hb3 := hb3.alloc hb3.size (.cells #[.bool b] 4)
                  have hbs3 : wd.heap.size ≤ (w3.alloc (.cells #[.bool b] 4)).heap.size := by simp; omega
                  refine wpAny_ready (rs := [8]) (by kernel_rfl) (by simp) ?_
                  refine (AllReady.cons rfl (fun K hK => ?_) AllReady.nil)
                  ·
                    refine step_appG el_clone_bools rfl (.tmp 23) (.tmp 26) rfl (by first | rfl | go_simp) ho3 (by first | rfl | (go_simp; done) | (go_simp; rfl)) hr26 (one_vbI _) (by rw [hl3]; unfold maxLen; omega) (by rw [hl3]; omega) hbs3 ?_
                    intro v4 w4 ho4 hg4 hat4
                    try go_simp
                    try (refine hK _ _ ?_; clear hK K)
                    have hb4 : Below w.heap.size w w4 := hb3.grown hg4 hb3.size (fun j hj => Nat.le_trans hs0 (ho3.lt j hj).1)
                    have hl4 : (vb (l.take k) ++ vb [b]).length = k + 1 := by rw [List.length_append, hl3]; rfl
                    refine wpAny_ready (rs := [12]) (by kernel_rfl) (by simp) ?_
                    refine (AllReady.cons rfl (fun K hK => ?_) AllReady.nil)
                    ·
                      refine step_appG el_clone_bools rfl (.tmp 27) (.tmp 30) rfl (by first | rfl | go_simp) ho4 (by first | rfl | (go_simp; done) | (go_simp; rfl)) (hSrc w4 hb4) (one_vbI _) (by rw [hl4]; unfold maxLen; omega) (by rw [hl4]; omega) (Nat.le_trans hbs3 hg4.size) ?_
                      intro v5 w5 ho5 hg5 hat5
                      try go_simp
                      try (refine hK _ _ ?_; clear hK K)
                      have hbW5 : Below w.heap.size w w5 := hb4.grown hg5 hb4.size (fun j hj => Nat.le_trans hs0 (ho4.lt j hj).1)
                      rw [hIN.out] at ho5
                      (refine wpAny_take (i := 13) (v := ?_) rfl (by kernel_rfl) (by kernel_rfl) (by kernel_rfl) (fun _ _ _ h => h) (Or.inl ⟨by first | (go_simp; done) | rfl, ?_⟩) ?_; rotate_left 1; (intro w; go_simp; try rfl))
                      refine wpAny_done (by kernel_rfl) ?_ _
                      obtain ⟨A5, c5, e5⟩ := ho5.form
                      rw [List.length_map, hLI.out] at e5
                      subst e5
                      have hbw : Below w.heap.size w w5 := hbW5
                      have cP := ref_Places A5 (n + 1) c5 (insL l k b) p w5 ho5.reads (by omega) HPP
                      go_wp2_with (go_at_call 67; refine cP.mono ?_; clear cP; rintro e w6 ⟨rfl, rfl⟩)
                      go_roundw
                      case rel => exact ⟨z + 1, hzn, by omega, by go_num, hbw⟩
                      case measure => simp [intOf]; omega
              ·
                go_simp
                refine hK _ _ ?_
                clear hK K
                have hoE : Own ((wd.alloc (.cells #[] 4)).alloc (.cells #[.bool b] 4)) wd.heap.size 4 (.slice (some ⟨wd.heap.size, 0, none⟩) 0 0) [] := (Own.built (wd) #[] 0 rfl (by unfold maxLen; omega) (Nat.le_refl _)).alloc _
                have hbE : Below w.heap.size w ((wd.alloc (.cells #[] 4)).alloc (.cells #[.bool b] 4)) := (hbD.alloc hsz _).alloc (by simp; omega) _
                have hF := ((h.takeB (k := k) j5)).below hbE
                have hrB : Reads ((wd.alloc (.cells #[] 4)).alloc (.cells #[.bool b] 4)) (wd.heap.size + 2) (some ⟨wd.heap.size + 1, 0, none⟩) 1 (vb [b]) := by have := reads_lay (wd.alloc (.cells #[] 4)) #[.bool b] 4 1 rfl; simpa using this
                refine wpAny_ready (rs := [4]) (by kernel_rfl) (by simp) ?_
                refine (AllReady.cons rfl (fun K hK => ?_) AllReady.nil)
                ·
                  refine step_appG el_clone_bools rfl (.tmp 19) (.tmp 22) rfl (by first | rfl | go_simp) hoE (by first | rfl | (go_simp; done) | (go_simp; rfl)) hF (one_vbI _) (by show 0 + k ≤ maxLen; unfold maxLen; omega) (by show (0 + k) * 1 ≤ _; omega) (by first | (simp; done) | (simp; omega)) ?_
                  intro v3 w3 ho3 hg3 hat3
                  try go_simp
                  try (refine hK _ _ ?_; clear hK K)
                  rw [List.nil_append] at ho3
                  have hb3 : Below w.heap.size w w3 := hbE.grown hg3 (by first | (simp; done) | (simp; omega)) (fun j hj => by have := (hoE.lt j hj).1; omega)
                  have hs0 : w.heap.size ≤ wd.heap.size := hsz
                  have hbs3 : wd.heap.size ≤ w3.heap.size := by have := hg3.size; simp at this; omega
                  have hl3 : (vb (l.take k)).length = k := by rw [List.length_map, List.length_take, H.out]; omega
                  have hr26 : Reads w3 (wd.heap.size + 2) (some ⟨wd.heap.size + 1, 0, none⟩) 1 (vb [b]) := hrB.keepNe hg3 (by simp) (fun ad e e2 => by injection e with e; subst e; have e3 : some wd.heap.size = some (wd.heap.size + 1) := e2; injection e3 with e3; omega)
                  refine wpAny_ready (rs := [8]) (by kernel_rfl) (by simp) ?_
                  refine (AllReady.cons rfl (fun K hK => ?_) AllReady.nil)
                  ·
                    refine step_appG el_clone_bools rfl (.tmp 23) (.tmp 26) rfl (by first | rfl | go_simp) ho3 (by first | rfl | (go_simp; done) | (go_simp; rfl)) hr26 (one_vbI _) (by rw [hl3]; unfold maxLen; omega) (by rw [hl3]; omega) hbs3 ?_
                    intro v4 w4 ho4 hg4 hat4
                    try go_simp
                    try (refine hK _ _ ?_; clear hK K)
                    have hb4 : Below w.heap.size w w4 := hb3.grown hg4 hb3.size (fun j hj => Nat.le_trans hs0 (ho3.lt j hj).1)
                    have hl4 : (vb (l.take k) ++ vb [b]).length = k + 1 := by rw [List.length_append, hl3]; rfl
                    refine wpAny_ready (rs := [12]) (by kernel_rfl) (by simp) ?_
                    refine (AllReady.cons rfl (fun K hK => ?_) AllReady.nil)
                    ·
                      refine step_appG el_clone_bools rfl (.tmp 27) (.tmp 30) rfl (by first | rfl | go_simp) ho4 (by first | rfl | (go_simp; done) | (go_simp; rfl)) (hSrc w4 hb4) (one_vbI _) (by rw [hl4]; unfold maxLen; omega) (by rw [hl4]; omega) (Nat.le_trans hbs3 hg4.size) ?_
                      intro v5 w5 ho5 hg5 hat5
                      try go_simp
                      try (refine hK _ _ ?_; clear hK K)
                      have hbW5 : Below w.heap.size w w5 := hb4.grown hg5 hb4.size (fun j hj => Nat.le_trans hs0 (ho4.lt j hj).1)
                      rw [hIN.out] at ho5
                      (refine wpAny_take (i := 13) (v := ?_) rfl (by kernel_rfl) (by kernel_rfl) (by kernel_rfl) (fun _ _ _ h => h) (Or.inl ⟨by first | (go_simp; done) | rfl, ?_⟩) ?_; rotate_left 1; (intro w; go_simp; try rfl))
                      refine wpAny_done (by kernel_rfl) ?_ _
                      obtain ⟨A5, c5, e5⟩ := ho5.form
                      rw [List.length_map, hLI.out] at e5
                      subst e5
                      have hbw : Below w.heap.size w w5 := hbW5
                      have cP := ref_Places A5 (n + 1) c5 (insL l k b) p w5 ho5.reads (by omega) HPP
                      go_wp2_with (go_at_call 67; refine cP.mono ?_; clear cP; rintro e w6 ⟨rfl, rfl⟩)
                      go_roundw
                      case rel => exact ⟨z + 1, hzn, by omega, by go_num, hbw⟩
                      case measure => simp [intOf]; omega
            ·
              go_simp
              refine hK _ _ ?_
              clear hK K
              refine wpAny_ready (rs := [0]) (by kernel_rfl) (by simp) ?_
              refine (AllReady.cons rfl (fun K hK => ?_) AllReady.nil)
              ·
                go_simp
                refine hK _ _ ?_
                clear hK K
                have hoE : Own ((wd.alloc (.cells #[.bool b] 4)).alloc (.cells #[] 4)) (wd.heap.size + 1) 4 (.slice (some ⟨wd.heap.size + 1, 0, none⟩) 0 0) [] := by have := Own.built (E := 4) (base := wd.heap.size + 1) (wd.alloc (.cells #[.bool b] 4)) #[] 0 rfl (by unfold maxLen; omega) (by simp); simpa using this
                have hbE : Below w.heap.size w ((wd.alloc (.cells #[.bool b] 4)).alloc (.cells #[] 4)) := (hbD.alloc hsz _).alloc (by simp; omega) _
                have hF := ((h.takeB (k := k) j5)).below hbE
                have hrB : Reads ((wd.alloc (.cells #[.bool b] 4)).alloc (.cells #[] 4)) (wd.heap.size + 1) (some ⟨wd.heap.size, 0, none⟩) 1 (vb [b]) := (by have := reads_lay wd #[.bool b] 4 1 rfl; exact this.alloc (by simp) _)
                refine wpAny_ready (rs := [4]) (by kernel_rfl) (by simp) ?_
                refine (AllReady.cons rfl (fun K hK => ?_) AllReady.nil)
                ·
                  refine step_appG el_clone_bools rfl (.tmp 19) (.tmp 22) rfl (by first | rfl | go_simp) hoE (by first | rfl | (go_simp; done) | (go_simp; rfl)) hF (one_vbI _) (by show 0 + k ≤ maxLen; unfold maxLen; omega) (by show (0 + k) * 1 ≤ _; omega) (by first | (simp; done) | (simp; omega)) ?_
                  intro v3 w3 ho3 hg3 hat3
                  try go_simp
                  try (refine hK _ _ ?_; clear hK K)
                  rw [List.nil_append] at ho3
                  have hb3 : Below w.heap.size w w3 := hbE.grown hg3 (by first | (simp; done) | (simp; omega)) (fun j hj => by have := (hoE.lt j hj).1; omega)
                  have hs0 : w.heap.size ≤ wd.heap.size + 1 := by omega
                  have hbs3 : wd.heap.size + 1 ≤ w3.heap.size := by have := hg3.size; simp at this; omega
                  have hl3 : (vb (l.take k)).length = k := by rw [List.length_map, List.length_take, H.out]; omega
                  have hr26 : Reads w3 (wd.heap.size + 1) (some ⟨wd.heap.size, 0, none⟩) 1 (vb [b]) := hrB.keepNe hg3 (by simp) (fun ad e e2 => by injection e with e; subst e; have e3 : some (wd.heap.size + 1) = some wd.heap.size := e2; injection e3 with e3; omega)
                  refine wpAny_ready (rs := [8]) (by kernel_rfl) (by simp) ?_
                  refine (AllReady.cons rfl (fun K hK => ?_) AllReady.nil)
                  ·
                    refine step_appG el_clone_bools rfl (.tmp 23) (.tmp 26) rfl (by first | rfl | go_simp) ho3 (by first | rfl | (go_simp; done) | (go_simp; rfl)) hr26 (one_vbI _) (by rw [hl3]; unfold maxLen; omega) (by rw [hl3]; omega) hbs3 ?_
                    intro v4 w4 ho4 hg4 hat4
                    try go_simp
                    try (refine hK _ _ ?_; clear hK K)
                    have hb4 : Below w.heap.size w w4 := hb3.grown hg4 hb3.size (fun j hj => Nat.le_trans hs0 (ho3.lt j hj).1)
                    have hl4 : (vb (l.take k) ++ vb [b]).length = k + 1 := by rw [List.length_append, hl3]; rfl
                    refine wpAny_ready (rs := [12]) (by kernel_rfl) (by simp) ?_
                    refine (AllReady.cons rfl (fun K hK => ?_) AllReady.nil)
                    ·
                      refine step_appG el_clone_bools rfl (.tmp 27) (.tmp 30) rfl (by first | rfl | go_simp) ho4 (by first | rfl | (go_simp; done) | (go_simp; rfl)) (hSrc w4 hb4) (one_vbI _) (by rw [hl4]; unfold maxLen; omega) (by rw [hl4]; omega) (Nat.le_trans hbs3 hg4.size) ?_
                      intro v5 w5 ho5 hg5 hat5
                      try go_simp
                      try (refine hK _ _ ?_; clear hK K)
                      have hbW5 : Below w.heap.size w w5 := hb4.grown hg5 hb4.size (fun j hj => Nat.le_trans hs0 (ho4.lt j hj).1)
                      rw [hIN.out] at ho5
                      (refine wpAny_take (i := 13) (v := ?_) rfl (by kernel_rfl) (by kernel_rfl) (by kernel_rfl) (fun _ _ _ h => h) (Or.inl ⟨by first | (go_simp; done) | rfl, ?_⟩) ?_; rotate_left 1; (intro w; go_simp; try rfl))
                      refine wpAny_done (by kernel_rfl) ?_ _
                      obtain ⟨A5, c5, e5⟩ := ho5.form
                      rw [List.length_map, hLI.out] at e5
                      subst e5
                      have hbw : Below w.heap.size w w5 := hbW5
                      have cP := ref_Places A5 (n + 1) c5 (insL l k b) p w5 ho5.reads (by omega) HPP
                      go_wp2_with (go_at_call 67; refine cP.mono ?_; clear cP; rintro e w6 ⟨rfl, rfl⟩)
                      go_roundw
                      case rel => exact ⟨z + 1, hzn, by omega, by go_num, hbw⟩
                      case measure => simp [intOf]; omega
        · have hSrc : ∀ W : World, Below w.heap.size w W → Reads W w.heap.size (some (ad.add k)) (n - k) (vb (l.drop k)) := fun W hW => reads_dropD (h.below hW) j5
          by_cases hpa : p = a
          ·
            have HEQ : Hid (insL l k b = insL l k0 b0) := ins_uniq (by rw [H.out]; exact j5) (by rw [H.out]; exact hk0) (by rw [HPP.out, hpa, ha.out])
            have j9 : (p == a) = true := by simpa using hpa
            clear hpa hzn
            go_wp2
            refine wp_region_any (by kernel_rfl) ?_
            try (change wpAny _ _ _ _ _ _ _ (World.drew _))
            obtain ⟨wd, hwd⟩ : ∃ wd, wd = wr.drew := ⟨_, rfl⟩
            rw [← hwd]
            have hbD : Below w.heap.size w wd := by rw [hwd]; exact hbel.drew
            clear hwd
            have hsz := hbD.size
            (refine wpAny_take (i := 1) (v := ?_) rfl (by kernel_rfl) (by kernel_rfl) (by kernel_rfl) (fun _ _ _ h => h) (Or.inl ⟨by first | (go_simp; done) | rfl, ?_⟩) ?_; rotate_left 1; (intro w; go_simp; try rfl))
            (refine wpAny_take (i := 2) (v := ?_) rfl (by kernel_rfl) (by kernel_rfl) (by kernel_rfl) (fun _ _ _ h => h) (Or.inl ⟨by first | (go_simp; done) | rfl, ?_⟩) ?_; rotate_left 1; (intro w; go_simp; try rfl))
            (refine wpAny_take (i := 3) (v := ?_) rfl (by kernel_rfl) (by kernel_rfl) (by kernel_rfl) (fun _ _ _ h => h) (Or.inl ⟨by first | (go_simp; done) | rfl, ?_⟩) ?_; rotate_left 1; (intro w; go_simp; try rfl))
            (refine wpAny_take (i := 5) (v := ?_) rfl (by kernel_rfl) (by kernel_rfl) (by kernel_rfl) (fun _ _ _ h => h) (Or.inl ⟨by first | (go_simp; done) | rfl, ?_⟩) ?_; rotate_left 1; (intro w; go_simp; try rfl))
            (refine wpAny_take (i := 6) (v := ?_) rfl (by kernel_rfl) (by kernel_rfl) (by kernel_rfl) (fun _ _ _ h => h) (Or.inl ⟨by first | (go_simp; done) | rfl, ?_⟩) ?_; rotate_left 1; (intro w; go_simp; try rfl))
            (refine wpAny_take (i := 9) (v := ?_) rfl (by kernel_rfl) (by kernel_rfl) (by kernel_rfl) (fun _ _ _ h => h) (Or.inl ⟨by first | (go_simp; done) | rfl, ?_⟩) ?_; rotate_left 1; (intro w; go_simp; try rfl))
            (refine wpAny_take (i := 10) (v := ?_) rfl (by kernel_rfl) (by kernel_rfl) (by kernel_rfl) (fun _ _ _ h => h) (Or.inl ⟨by first | (go_simp; done) | rfl, ?_⟩) ?_; rotate_left 1; (intro w; go_simp; try rfl))
            (refine wpAny_take (i := 11) (v := ?_) rfl (by kernel_rfl) (by kernel_rfl) (by kernel_rfl) (fun _ _ _ h => h) (Or.inl ⟨by first | (go_simp; done) | rfl, ?_⟩) ?_; rotate_left 1; (intro w; go_simp; try rfl))
            refine wpAny_ready (rs := [0, 7]) (by kernel_rfl) (by simp) ?_
            refine (AllReady.cons rfl (fun K hK => ?_) (AllReady.cons rfl (fun K hK => ?_) AllReady.nil))
            ·
              go_simp
              refine hK _ _ ?_
              clear hK K
              refine wpAny_ready (rs := [4, 7]) (by kernel_rfl) (by simp) ?_
              refine (AllReady.cons rfl (fun K hK => ?_) (AllReady.cons rfl (fun K hK => ?_) AllReady.nil))
              ·
                have hoE : Own (wd.alloc (.cells #[] 4)) wd.heap.size 4 (.slice (some ⟨wd.heap.size, 0, none⟩) 0 0) [] := Own.built (wd) #[] 0 rfl (by unfold maxLen; omega) (Nat.le_refl _)
                have hbE : Below w.heap.size w (wd.alloc (.cells #[] 4)) := hbD.alloc hsz _
                have hF := ((h.takeB (k := k) j5)).below hbE
                refine step_appG el_clone_bools rfl (.tmp 19) (.tmp 22) rfl (by first | rfl | go_simp) hoE (by first | rfl | (go_simp; done) | (go_simp; rfl)) hF (one_vbI _) (by show 0 + k ≤ maxLen; unfold maxLen; omega) (by show (0 + k) * 1 ≤ _; omega) (by simp) ?_
                intro v3 w3 ho3 hg3 hat3
                try go_simp
                try (refine hK _ _ ?_; clear hK K)
                rw [List.nil_append] at ho3
                have hb3 : Below w.heap.size w w3 := hbE.grown hg3 (by first | (simp; done) | (simp; omega)) (fun j hj => by have := (hoE.lt j hj).1; omega)
                have hs0 : w.heap.size ≤ wd.heap.size := hsz
                have hbs3 : wd.heap.size ≤ w3.heap.size := by have := hg3.size; simp at this; omega
                have hl3 : (vb (l.take k)).length = k := by rw [List.length_map, List.length_take, H.out]; omega
                refine wpAny_ready (rs := [7]) (by kernel_rfl) (by simp) ?_
                refine (AllReady.cons rfl (fun K hK => ?_) AllReady.nil)
                ·
                  go_simp
                  refine hK _ _ ?_
                  clear hK K
                  have hr26 : Reads (w3.alloc (.cells #[.bool b] 4)) (w3.heap.size + 1) (some ⟨w3.heap.size, 0, none⟩) 1 (vb [b]) := reads_lay w3 #[.bool b] 4 1 rfl
                  have ho3 := ho3.alloc (.cells #[.bool b] 4)
                  have hb3 := hb3.alloc hb3.size (.cells #[.bool b] 4)
                  have hbs3 : wd.heap.size ≤ (w3.alloc (.cells #[.bool b] 4)).heap.size := by simp; omega
                  refine wpAny_ready (rs := [8]) (by kernel_rfl) (by simp) ?_
                  refine (AllReady.cons rfl (fun K hK => ?_) AllReady.nil)
                  ·
                    refine step_appG el_clone_bools rfl (.tmp 23) (.tmp 26) rfl (by first | rfl | go_simp) ho3 (by first | rfl | (go_simp; done) | (go_simp; rfl)) hr26 (one_vbI _) (by rw [hl3]; unfold maxLen; omega) (by rw [hl3]; omega) hbs3 ?_
                    intro v4 w4 ho4 hg4 hat4
                    try go_simp
                    try (refine hK _ _ ?_; clear hK K)
                    have hb4 : Below w.heap.size w w4 := hb3.grown hg4 hb3.size (fun j hj => Nat.le_trans hs0 (ho3.lt j hj).1)
                    have hl4 : (vb (l.take k) ++ vb [b]).length = k + 1 := by rw [List.length_append, hl3]; rfl
                    refine wpAny_ready (rs := [12]) (by kernel_rfl) (by simp) ?_
                    refine (AllReady.cons rfl (fun K hK => ?_) AllReady.nil)
                    ·
                      refine step_appG el_clone_bools rfl (.tmp 27) (.tmp 30) rfl (by first | rfl | go_simp) ho4 (by first | rfl | (go_simp; done) | (go_simp; rfl)) (hSrc w4 hb4) (one_vbI _) (by rw [hl4]; unfold maxLen; omega) (by rw [hl4]; omega) (Nat.le_trans hbs3 hg4.size) ?_
                      intro v5 w5 ho5 hg5 hat5
                      try go_simp
                      try (refine hK _ _ ?_; clear hK K)
                      have hbW5 : Below w.heap.size w w5 := hb4.grown hg5 hb4.size (fun j hj => Nat.le_trans hs0 (ho4.lt j hj).1)
                      rw [hIN.out] at ho5
                      (refine wpAny_take (i := 13) (v := ?_) rfl (by kernel_rfl) (by kernel_rfl) (by kernel_rfl) (fun _ _ _ h => h) (Or.inl ⟨by first | (go_simp; done) | rfl, ?_⟩) ?_; rotate_left 1; (intro w; go_simp; try rfl))
                      refine wpAny_done (by kernel_rfl) ?_ _
                      obtain ⟨A5, c5, e5⟩ := ho5.form
                      rw [List.length_map, hLI.out] at e5
                      subst e5
                      have hbw : Below w.heap.size w w5 := hbW5
                      have cP := ref_Places A5 (n + 1) c5 (insL l k b) p w5 ho5.reads (by omega) HPP
                      go_wp2_with (go_at_call 67; refine cP.mono ?_; clear cP; rintro e w6 ⟨rfl, rfl⟩)
                      go_ret2
                      exact ⟨A5, n + 1, c5, rfl, by rw [← HEQ.out]; exact ho5.reads, hbw⟩
              ·
                go_simp
                refine hK _ _ ?_
                clear hK K
                have hoE : Own ((wd.alloc (.cells #[] 4)).alloc (.cells #[.bool b] 4)) wd.heap.size 4 (.slice (some ⟨wd.heap.size, 0, none⟩) 0 0) [] := (Own.built (wd) #[] 0 rfl (by unfold maxLen; omega) (Nat.le_refl _)).alloc _
                have hbE : Below w.heap.size w ((wd.alloc (.cells #[] 4)).alloc (.cells #[.bool b] 4)) := (hbD.alloc hsz _).alloc (by simp; omega) _
                have hF := ((h.takeB (k := k) j5)).below hbE
                have hrB : Reads ((wd.alloc (.cells #[] 4)).alloc (.cells #[.bool b] 4)) (wd.heap.size + 2) (some ⟨wd.heap.size + 1, 0, none⟩) 1 (vb [b]) := by have := reads_lay (wd.alloc (.cells #[] 4)) #[.bool b] 4 1 rfl; simpa using this
                refine wpAny_ready (rs := [4]) (by kernel_rfl) (by simp) ?_
                refine (AllReady.cons rfl (fun K hK => ?_) AllReady.nil)
                ·
                  refine step_appG el_clone_bools rfl (.tmp 19) (.tmp 22) rfl (by first | rfl | go_simp) hoE (by first | rfl | (go_simp; done) | (go_simp; rfl)) hF (one_vbI _) (by show 0 + k ≤ maxLen; unfold maxLen; omega) (by show (0 + k) * 1 ≤ _; omega) (by first | (simp; done) | (simp; omega)) ?_
                  intro v3 w3 ho3 hg3 hat3
                  try go_simp
                  try (refine hK _ _ ?_; clear hK K)
                  rw [List.nil_append] at ho3
                  have hb3 : Below w.heap.size w w3 := hbE.grown hg3 (by first | (simp; done) | (simp; omega)) (fun j hj => by have := (hoE.lt j hj).1; omega)
                  have hs0 : w.heap.size ≤ wd.heap.size := hsz
                  have hbs3 : wd.heap.size ≤ w3.heap.size := by have := hg3.size; simp at this; omega
                  have hl3 : (vb (l.take k)).length = k := by rw [List.length_map, List.length_take, H.out]; omega
                  have hr26 : Reads w3 (wd.heap.size + 2) (some ⟨wd.heap.size + 1, 0, none⟩) 1 (vb [b]) := hrB.keepNe hg3 (by simp) (fun ad e e2 => by injection e with e; subst e; have e3 : some wd.heap.size = some (wd.heap.size + 1) := e2; injection e3 with e3; omega)
                  refine wpAny_ready (rs := [8]) (by kernel_rfl) (by simp) ?_
                  refine (AllReady.cons rfl (fun K hK => ?_) AllReady.nil)
                  ·
                    refine step_appG el_clone_bools rfl (.tmp 23) (.tmp 26) rfl (by first | rfl | go_simp) ho3 (by first | rfl | (go_simp; done) | (go_simp; rfl)) hr26 (one_vbI _) (by rw [hl3]; unfold maxLen; omega) (by rw [hl3]; omega) hbs3 ?_
                    intro v4 w4 ho4 hg4 hat4
                    try go_simp
                    try (refine hK _ _ ?_; clear hK K)
                    have hb4 : Below w.heap.size w w4 := hb3.grown hg4 hb3.size (fun j hj => Nat.le_trans hs0 (ho3.lt j hj).1)
                    have hl4 : (vb (l.take k) ++ vb [b]).length = k + 1 := by rw [List.length_append, hl3]; rfl
                    refine wpAny_ready (rs := [12]) (by kernel_rfl) (by simp) ?_
                    refine (AllReady.cons rfl (fun K hK => ?_) AllReady.nil)
                    ·
                      refine step_appG el_clone_bools rfl (.tmp 27) (.tmp 30) rfl (by first | rfl | go_simp) ho4 (by first | rfl | (go_simp; done) | (go_simp; rfl)) (hSrc w4 hb4) (one_vbI _) (by rw [hl4]; unfold maxLen; omega) (by rw [hl4]; omega) (Nat.le_trans hbs3 hg4.size) ?_
                      intro v5 w5 ho5 hg5 hat5
                      try go_simp
                      try (refine hK _ _ ?_; clear hK K)
                      have hbW5 : Below w.heap.size w w5 := hb4.grown hg5 hb4.size (fun j hj => Nat.le_trans hs0 (ho4.lt j hj).1)
                      rw [hIN.out] at ho5
                      (refine wpAny_take (i := 13) (v := ?_) rfl (by kernel_rfl) (by kernel_rfl) (by kernel_rfl) (fun _ _ _ h => h) (Or.inl ⟨by first | (go_simp; done) | rfl, ?_⟩) ?_; rotate_left 1; (intro w; go_simp; try rfl))
                      refine wpAny_done (by kernel_rfl) ?_ _
                      obtain ⟨A5, c5, e5⟩ := ho5.form
                      rw [List.length_map, hLI.out] at e5
                      subst e5
                      have hbw : Below w.heap.size w w5 := hbW5
                      have cP := ref_Places A5 (n + 1) c5 (insL l k b) p w5 ho5.reads (by omega) HPP
                      go_wp2_with (go_at_call 67; refine cP.mono ?_; clear cP; rintro e w6 ⟨rfl, rfl⟩)
                      go_ret2
                      exact ⟨A5, n + 1, c5, rfl, by rw [← HEQ.out]; exact ho5.reads, hbw⟩
            ·
              go_simp
              refine hK _ _ ?_
              clear hK K
              refine wpAny_ready (rs := [0]) (by kernel_rfl) (by simp) ?_
              refine (AllReady.cons rfl (fun K hK => ?_) AllReady.nil)
              ·
                go_simp
                refine hK _ _ ?_
                clear hK K
                have hoE : Own ((wd.alloc (.cells #[.bool b] 4)).alloc (.cells #[] 4)) (wd.heap.size + 1) 4 (.slice (some ⟨wd.heap.size + 1, 0, none⟩) 0 0) [] := by have := Own.built (E := 4) (base := wd.heap.size + 1) (wd.alloc (.cells #[.bool b] 4)) #[] 0 rfl (by unfold maxLen; omega) (by simp); simpa using this
                have hbE : Below w.heap.size w ((wd.alloc (.cells #[.bool b] 4)).alloc (.cells #[] 4)) := (hbD.alloc hsz _).alloc (by simp; omega) _
                have hF := ((h.takeB (k := k) j5)).below hbE
                have hrB : Reads ((wd.alloc (.cells #[.bool b] 4)).alloc (.cells #[] 4)) (wd.heap.size + 1) (some ⟨wd.heap.size, 0, none⟩) 1 (vb [b]) := (by have := reads_lay wd #[.bool b] 4 1 rfl; exact this.alloc (by simp) _)
                refine wpAny_ready (rs := [4]) (by kernel_rfl) (by simp) ?_
                refine (AllReady.cons rfl (fun K hK => ?_) AllReady.nil)
                ·
                  refine step_appG el_clone_bools rfl (.tmp 19) (.tmp 22) rfl (by first | rfl | go_simp) hoE (by first | rfl | (go_simp; done) | (go_simp; rfl)) hF (one_vbI _) (by show 0 + k ≤ maxLen; unfold maxLen; omega) (by show (0 + k) * 1 ≤ _; omega) (by first | (simp; done) | (simp; omega)) ?_
                  intro v3 w3 ho3 hg3 hat3
                  try go_simp
                  try (refine hK _ _ ?_; clear hK K)
                  rw [List.nil_append] at ho3
                  have hb3 : Below w.heap.size w w3 := hbE.grown hg3 (by first | (simp; done) | (simp; omega)) (fun j hj => by have := (hoE.lt j hj).1; omega)
                  have hs0 : w.heap.size ≤ wd.heap.size + 1 := by omega
                  have hbs3 : wd.heap.size + 1 ≤ w3.heap.size := by have := hg3.size; simp at this; omega
                  have hl3 : (vb (l.take k)).length = k := by rw [List.length_map, List.length_take, H.out]; omega
                  have hr26 : Reads w3 (wd.heap.size + 1) (some ⟨wd.heap.size, 0, none⟩) 1 (vb [b]) := hrB.keepNe hg3 (by simp) (fun ad e e2 => by injection e with e; subst e; have e3 : some (wd.heap.size + 1) = some wd.heap.size := e2; injection e3 with e3; omega)
                  refine wpAny_ready (rs := [8]) (by kernel_rfl) (by simp) ?_
                  refine (AllReady.cons rfl (fun K hK => ?_) AllReady.nil)
                  ·
                    refine step_appG el_clone_bools rfl (.tmp 23) (.tmp 26) rfl (by first | rfl | go_simp) ho3 (by first | rfl | (go_simp; done) | (go_simp; rfl)) hr26 (one_vbI _) (by rw [hl3]; unfold maxLen; omega) (by rw [hl3]; omega) hbs3 ?_
                    intro v4 w4 ho4 hg4 hat4
                    try go_simp
                    try (refine hK _ _ ?_; clear hK K)
                    have hb4 : Below w.heap.size w w4 := hb3.grown hg4 hb3.size (fun j hj => Nat.le_trans hs0 (ho3.lt j hj).1)
                    have hl4 : (vb (l.take k) ++ vb [b]).length = k + 1 := by rw [List.length_append, hl3]; rfl
                    refine wpAny_ready (rs := [12]) (by kernel_rfl) (by simp) ?_
                    refine (AllReady.cons rfl (fun K hK => ?_) AllReady.nil)
                    ·
                      refine step_appG el_clone_bools rfl (.tmp 27) (.tmp 30) rfl (by first | rfl | go_simp) ho4 (by first | rfl | (go_simp; done) | (go_simp; rfl)) (hSrc w4 hb4) (one_vbI _) (by rw [hl4]; unfold maxLen; omega) (by rw [hl4]; omega) (Nat.le_trans hbs3 hg4.size) ?_
                      intro v5 w5 ho5 hg5 hat5
                      try go_simp
                      try (refine hK _ _ ?_; clear hK K)
                      have hbW5 : Below w.heap.size w w5 := hb4.grown hg5 hb4.size (fun j hj => Nat.le_trans hs0 (ho4.lt j hj).1)
                      rw [hIN.out] at ho5
                      (refine wpAny_take (i := 13) (v := ?_) rfl (by kernel_rfl) (by kernel_rfl) (by kernel_rfl) (fun _ _ _ h => h) (Or.inl ⟨by first | (go_simp; done) | rfl, ?_⟩) ?_; rotate_left 1; (intro w; go_simp; try rfl))
                      refine wpAny_done (by kernel_rfl) ?_ _
                      obtain ⟨A5, c5, e5⟩ := ho5.form
                      rw [List.length_map, hLI.out] at e5
                      subst e5
                      have hbw : Below w.heap.size w w5 := hbW5
                      have cP := ref_Places A5 (n + 1) c5 (insL l k b) p w5 ho5.reads (by omega) HPP
                      go_wp2_with (go_at_call 67; refine cP.mono ?_; clear cP; rintro e w6 ⟨rfl, rfl⟩)
                      go_ret2
                      exact ⟨A5, n + 1, c5, rfl, by rw [← HEQ.out]; exact ho5.reads, hbw⟩
          ·
            have j9 : (p == a) = false := by simpa using hpa
            have hzn := hzn hpa
            clear hpa
            go_wp2
            refine wp_region_any (by kernel_rfl) ?_
            try (change wpAny _ _ _ _ _ _ _ (World.drew _))
            obtain ⟨wd, hwd⟩ : ∃ wd, wd = wr.drew := ⟨_, rfl⟩
            rw [← hwd]
            have hbD : Below w.heap.size w wd := by rw [hwd]; exact hbel.drew
            clear hwd
            have hsz := hbD.size
            (refine wpAny_take (i := 1) (v := ?_) rfl (by kernel_rfl) (by kernel_rfl) (by kernel_rfl) (fun _ _ _ h => h) (Or.inl ⟨by first | (go_simp; done) | rfl, ?_⟩) ?_; rotate_left 1; (intro w; go_simp; try rfl))
            (refine wpAny_take (i := 2) (v := ?_) rfl (by kernel_rfl) (by kernel_rfl) (by kernel_rfl) (fun _ _ _ h => h) (Or.inl ⟨by first | (go_simp; done) | rfl, ?_⟩) ?_; rotate_left 1; (intro w; go_simp; try rfl))
            (refine wpAny_take (i := 3) (v := ?_) rfl (by kernel_rfl) (by kernel_rfl) (by kernel_rfl) (fun _ _ _ h => h) (Or.inl ⟨by first | (go_simp; done) | rfl, ?_⟩) ?_; rotate_left 1; (intro w; go_simp; try rfl))
            (refine wpAny_take (i := 5) (v := ?_) rfl (by kernel_rfl) (by kernel_rfl) (by kernel_rfl) (fun _ _ _ h => h) (Or.inl ⟨by first | (go_simp; done) | rfl, ?_⟩) ?_; rotate_left 1; (intro w; go_simp; try rfl))
            (refine wpAny_take (i := 6) (v := ?_) rfl (by kernel_rfl) (by kernel_rfl) (by kernel_rfl) (fun _ _ _ h => h) (Or.inl ⟨by first | (go_simp; done) | rfl, ?_⟩) ?_; rotate_left 1; (intro w; go_simp; try rfl))
            (refine wpAny_take (i := 9) (v := ?_) rfl (by kernel_rfl) (by kernel_rfl) (by kernel_rfl) (fun _ _ _ h => h) (Or.inl ⟨by first | (go_simp; done) | rfl, ?_⟩) ?_; rotate_left 1; (intro w; go_simp; try rfl))
            (refine wpAny_take (i := 10) (v := ?_) rfl (by kernel_rfl) (by kernel_rfl) (by kernel_rfl) (fun _ _ _ h => h) (Or.inl ⟨by first | (go_simp; done) | rfl, ?_⟩) ?_; rotate_left 1; (intro w; go_simp; try rfl))
            (refine wpAny_take (i := 11) (v := ?_) rfl (by kernel_rfl) (by kernel_rfl) (by kernel_rfl) (fun _ _ _ h => h) (Or.inl ⟨by first | (go_simp; done) | rfl, ?_⟩) ?_; rotate_left 1; (intro w; go_simp; try rfl))
            refine wpAny_ready (rs := [0, 7]) (by kernel_rfl) (by simp) ?_
            refine (AllReady.cons rfl (fun K hK => ?_) (AllReady.cons rfl (fun K hK => ?_) AllReady.nil))
            ·
              go_simp
              refine hK _ _ ?_
              clear hK K
              refine wpAny_ready (rs := [4, 7]) (by kernel_rfl) (by simp) ?_
              refine (AllReady.cons rfl (fun K hK => ?_) (AllReady.cons rfl (fun K hK => ?_) AllReady.nil))
              ·
                have hoE : Own (wd.alloc (.cells #[] 4)) wd.heap.size 4 (.slice (some ⟨wd.heap.size, 0, none⟩) 0 0) [] := Own.built (wd) #[] 0 rfl (by unfold maxLen; omega) (Nat.le_refl _)
                have hbE : Below w.heap.size w (wd.alloc (.cells #[] 4)) := hbD.alloc hsz _
                have hF := ((h.takeB (k := k) j5)).below hbE
                refine step_appG el_clone_bools rfl (.tmp 19) (.tmp 22) rfl (by first | rfl | go_simp) hoE (by first | rfl | (go_simp; done) | (go_simp; rfl)) hF (one_vbI _) (by show 0 + k ≤ maxLen; unfold maxLen; omega) (by show (0 + k) * 1 ≤ _; omega) (by simp) ?_
                intro v3 w3 ho3 hg3 hat3
                try go_simp
                try (refine hK _ _ ?_; clear hK K)
                rw [List.nil_append] at ho3
                have hb3 : Below w.heap.size w w3 := hbE.grown hg3 (by first | (simp; done) | (simp; omega)) (fun j hj => by have := (hoE.lt j hj).1; omega)
                have hs0 : w.heap.size ≤ wd.heap.size := hsz
                have hbs3 : wd.heap.size ≤ w3.heap.size := by have := hg3.size; simp at this; omega
                have hl3 : (vb (l.take k)).length = k := by rw [List.length_map, List.length_take, H.out]; omega
                refine wpAny_ready (rs := [7]) (by kernel_rfl) (by simp) ?_
                refine (AllReady.cons rfl (fun K hK => ?_) AllReady.nil)
                ·
                  go_simp
                  refine hK _ _ ?_
                  clear hK K
                  have hr26 : Reads (w3.alloc (.cells #[.bool b] 4)) (w3.heap.size + 1) (some ⟨w3.heap.size, 0, none⟩) 1 (vb [b]) := reads_lay w3 #[.bool b] 4 1 rfl
                  have ho3 := ho3.alloc (.cells #[.bool b] 4)
                  have hb3 := hb3.alloc hb3.size (.cells #[.bool b] 4)
                  have hbs3 : wd.heap.size ≤ (w3.alloc (.cells #[.bool b] 4)).heap.size := by simp; omega
                  refine wpAny_ready (rs := [8]) (by kernel_rfl) (by simp) ?_
                  refine (AllReady.cons rfl (fun K hK => ?_) AllReady.nil)
                  ·
                    refine step_appG el_clone_bools rfl (.tmp 23) (.tmp 26) rfl (by first | rfl | go_simp) ho3 (by first | rfl | (go_simp; done) | (go_simp; rfl)) hr26 (one_vbI _) (by rw [hl3]; unfold maxLen; omega) (by rw [hl3]; omega) hbs3 ?_
                    intro v4 w4 ho4 hg4 hat4
                    try go_simp
                    try (refine hK _ _ ?_; clear hK K)
                    have hb4 : Below w.heap.size w w4 := hb3.grown hg4 hb3.size (fun j hj => Nat.le_trans hs0 (ho3.lt j hj).1)
                    have hl4 : (vb (l.take k) ++ vb [b]).length = k + 1 := by rw [List.length_append, hl3]; rfl
                    refine wpAny_ready (rs := [12]) (by kernel_rfl) (by simp) ?_
                    refine (AllReady.cons rfl (fun K hK => ?_) AllReady.nil)
                    ·
                      refine step_appG el_clone_bools rfl (.tmp 27) (.tmp 30) rfl (by first | rfl | go_simp) ho4 (by first | rfl | (go_simp; done) | (go_simp; rfl)) (hSrc w4 hb4) (one_vbI _) (by rw [hl4]; unfold maxLen; omega) (by rw [hl4]; omega) (Nat.le_trans hbs3 hg4.size) ?_
                      intro v5 w5 ho5 hg5 hat5
                      try go_simp
                      try (refine hK _ _ ?_; clear hK K)
                      have hbW5 : Below w.heap.size w w5 := hb4.grown hg5 hb4.size (fun j hj => Nat.le_trans hs0 (ho4.lt j hj).1)
                      rw [hIN.out] at ho5
                      (refine wpAny_take (i := 13) (v := ?_) rfl (by kernel_rfl) (by kernel_rfl) (by kernel_rfl) (fun _ _ _ h => h) (Or.inl ⟨by first | (go_simp; done) | rfl, ?_⟩) ?_; rotate_left 1; (intro w; go_simp; try rfl))
                      refine wpAny_done (by kernel_rfl) ?_ _
                      obtain ⟨A5, c5, e5⟩ := ho5.form
                      rw [List.length_map, hLI.out] at e5
                      subst e5
                      have hbw : Below w.heap.size w w5 := hbW5
                      have cP := ref_Places A5 (n + 1) c5 (insL l k b) p w5 ho5.reads (by omega) HPP
                      go_wp2_with (go_at_call 67; refine cP.mono ?_; clear cP; rintro e w6 ⟨rfl, rfl⟩)
                      go_roundw
                      case rel => exact ⟨z + 1, hzn, by omega, by go_num, hbw⟩
                      case measure => simp [intOf]; omega
              ·
                go_simp
                refine hK _ _ ?_
                clear hK K
                have hoE : Own ((wd.alloc (.cells #[] 4)).alloc (.cells #[.bool b] 4)) wd.heap.size 4 (.slice (some ⟨wd.heap.size, 0, none⟩) 0 0) [] := (Own.built (wd) #[] 0 rfl (by unfold maxLen; omega) (Nat.le_refl _)).alloc _
                have hbE : Below w.heap.size w ((wd.alloc (.cells #[] 4)).alloc (.cells #[.bool b] 4)) := (hbD.alloc hsz _).alloc (by simp; omega) _
                have hF := ((h.takeB (k := k) j5)).below hbE
                have hrB : Reads ((wd.alloc (.cells #[] 4)).alloc (.cells #[.bool b] 4)) (wd.heap.size + 2) (some ⟨wd.heap.size + 1, 0, none⟩) 1 (vb [b]) := by have := reads_lay (wd.alloc (.cells #[] 4)) #[.bool b] 4 1 rfl; simpa using this
                refine wpAny_ready (rs := [4]) (by kernel_rfl) (by simp) ?_
                refine (AllReady.cons rfl (fun K hK => ?_) AllReady.nil)
                ·
                  refine step_appG el_clone_bools rfl (.tmp 19) (.tmp 22) rfl (by first | rfl | go_simp) hoE (by first | rfl | (go_simp; done) | (go_simp; rfl)) hF (one_vbI _) (by show 0 + k ≤ maxLen; unfold maxLen; omega) (by show (0 + k) * 1 ≤ _; omega) (by first | (simp; done) | (simp; omega)) ?_
                  intro v3 w3 ho3 hg3 hat3
                  try go_simp
                  try (refine hK _ _ ?_; clear hK K)
                  rw [List.nil_append] at ho3
                  have hb3 : Below w.heap.size w w3 := hbE.grown hg3 (by first | (simp; done) | (simp; omega)) (fun j hj => by have := (hoE.lt j hj).1; omega)
                  have hs0 : w.heap.size ≤ wd.heap.size := hsz
                  have hbs3 : wd.heap.size ≤ w3.heap.size := by have := hg3.size; simp at this; omega
                  have hl3 : (vb (l.take k)).length = k := by rw [List.length_map, List.length_take, H.out]; omega
                  have hr26 : Reads w3 (wd.heap.size + 2) (some ⟨wd.heap.size + 1, 0, none⟩) 1 (vb [b]) := hrB.keepNe hg3 (by simp) (fun ad e e2 => by injection e with e; subst e; have e3 : some wd.heap.size = some (wd.heap.size + 1) := e2; injection e3 with e3; omega)
                  refine wpAny_ready (rs := [8]) (by kernel_rfl) (by simp) ?_
                  refine (AllReady.cons rfl (fun K hK => ?_) AllReady.nil)
                  ·
                    refine step_appG el_clone_bools rfl (.tmp 23) (.tmp 26) rfl (by first | rfl | go_simp) ho3 (by first | rfl | (go_simp; done) | (go_simp; rfl)) hr26 (one_vbI _) (by rw [hl3]; unfold maxLen; omega) (by rw [hl3]; omega) hbs3 ?_
                    intro v4 w4 ho4 hg4 hat4
                    try go_simp
                    try (refine hK _ _ ?_; clear hK K)
                    have hb4 : Below w.heap.size w w4 := hb3.grown hg4 hb3.size (fun j hj => Nat.le_trans hs0 (ho3.lt j hj).1)
                    have hl4 : (vb (l.take k) ++ vb [b]).length = k + 1 := by rw [List.length_append, hl3]; rfl
                    refine wpAny_ready (rs := [12]) (by kernel_rfl) (by simp) ?_
                    refine (AllReady.cons rfl (fun K hK => ?_) AllReady.nil)
                    ·
                      refine step_appG el_clone_bools rfl (.tmp 27) (.tmp 30) rfl (by first | rfl | go_simp) ho4 (by first | rfl | (go_simp; done) | (go_simp; rfl)) (hSrc w4 hb4) (one_vbI _) (by rw [hl4]; unfold maxLen; omega) (by rw [hl4]; omega) (Nat.le_trans hbs3 hg4.size) ?_
                      intro v5 w5 ho5 hg5 hat5
                      try go_simp
                      try (refine hK _ _ ?_; clear hK K)
                      have hbW5 : Below w.heap.size w w5 := hb4.grown hg5 hb4.size (fun j hj => Nat.le_trans hs0 (ho4.lt j hj).1)
                      rw [hIN.out] at ho5
                      (refine wpAny_take (i := 13) (v := ?_) rfl (by kernel_rfl) (by kernel_rfl) (by kernel_rfl) (fun _ _ _ h => h) (Or.inl ⟨by first | (go_simp; done) | rfl, ?_⟩) ?_; rotate_left 1; (intro w; go_simp; try rfl))
                      refine wpAny_done (by kernel_rfl) ?_ _
                      obtain ⟨A5, c5, e5⟩ := ho5.form
                      rw [List.length_map, hLI.out] at e5
                      subst e5
                      have hbw : Below w.heap.size w w5 := hbW5
                      have cP := ref_Places A5 (n + 1) c5 (insL l k b) p w5 ho5.reads (by omega) HPP
                      go_wp2_with (go_at_call 67; refine cP.mono ?_; clear cP; rintro e w6 ⟨rfl, rfl⟩)
                      go_roundw
                      case rel => exact ⟨z + 1, hzn, by omega, by go_num, hbw⟩
                      case measure => simp [intOf]; omega
            ·
              go_simp
              refine hK _ _ ?_
              clear hK K
              refine wpAny_ready (rs := [0]) (by kernel_rfl) (by simp) ?_
              refine (AllReady.cons rfl (fun K hK => ?_) AllReady.nil)
              ·
                go_simp
                refine hK _ _ ?_
                clear hK K
                have hoE : Own ((wd.alloc (.cells #[.bool b] 4)).alloc (.cells #[] 4)) (wd.heap.size + 1) 4 (.slice (some ⟨wd.heap.size + 1, 0, none⟩) 0 0) [] := by have := Own.built (E := 4) (base := wd.heap.size + 1) (wd.alloc (.cells #[.bool b] 4)) #[] 0 rfl (by unfold maxLen; omega) (by simp); simpa using this
                have hbE : Below w.heap.size w ((wd.alloc (.cells #[.bool b] 4)).alloc (.cells #[] 4)) := (hbD.alloc hsz _).alloc (by simp; omega) _
                have hF := ((h.takeB (k := k) j5)).below hbE
                have hrB : Reads ((wd.alloc (.cells #[.bool b] 4)).alloc (.cells #[] 4)) (wd.heap.size + 1) (some ⟨wd.heap.size, 0, none⟩) 1 (vb [b]) := (by have := reads_lay wd #[.bool b] 4 1 rfl; exact this.alloc (by simp) _)
                refine wpAny_ready (rs := [4]) (by kernel_rfl) (by simp) ?_
                refine (AllReady.cons rfl (fun K hK => ?_) AllReady.nil)
                ·
                  refine step_appG el_clone_bools rfl (.tmp 19) (.tmp 22) rfl (by first | rfl | go_simp) hoE (by first | rfl | (go_simp; done) | (go_simp; rfl)) hF (one_vbI _) (by show 0 + k ≤ maxLen; unfold maxLen; omega) (by show (0 + k) * 1 ≤ _; omega) (by first | (simp; done) | (simp; omega)) ?_
                  intro v3 w3 ho3 hg3 hat3
                  try go_simp
                  try (refine hK _ _ ?_; clear hK K)
                  rw [List.nil_append] at ho3
                  have hb3 : Below w.heap.size w w3 := hbE.grown hg3 (by first | (simp; done) | (simp; omega)) (fun j hj => by have := (hoE.lt j hj).1; omega)
                  have hs0 : w.heap.size ≤ wd.heap.size + 1 := by omega
                  have hbs3 : wd.heap.size + 1 ≤ w3.heap.size := by have := hg3.size; simp at this; omega
                  have hl3 : (vb (l.take k)).length = k := by rw [List.length_map, List.length_take, H.out]; omega
                  have hr26 : Reads w3 (wd.heap.size + 1) (some ⟨wd.heap.size, 0, none⟩) 1 (vb [b]) := hrB.keepNe hg3 (by simp) (fun ad e e2 => by injection e with e; subst e; have e3 : some (wd.heap.size + 1) = some wd.heap.size := e2; injection e3 with e3; omega)
                  refine wpAny_ready (rs := [8]) (by kernel_rfl) (by simp) ?_
                  refine (AllReady.cons rfl (fun K hK => ?_) AllReady.nil)
                  ·
                    refine step_appG el_clone_bools rfl (.tmp 23) (.tmp 26) rfl (by first | rfl | go_simp) ho3 (by first | rfl | (go_simp; done) | (go_simp; rfl)) hr26 (one_vbI _) (by rw [hl3]; unfold maxLen; omega) (by rw [hl3]; omega) hbs3 ?_
                    intro v4 w4 ho4 hg4 hat4
                    try go_simp
                    try (refine hK _ _ ?_; clear hK K)
                    have hb4 : Below w.heap.size w w4 := hb3.grown hg4 hb3.size (fun j hj => Nat.le_trans hs0 (ho3.lt j hj).1)
                    have hl4 : (vb (l.take k) ++ vb [b]).length = k + 1 := by rw [List.length_append, hl3]; rfl
                    refine wpAny_ready (rs := [12]) (by kernel_rfl) (by simp) ?_
                    refine (AllReady.cons rfl (fun K hK => ?_) AllReady.nil)
                    ·
                      refine step_appG el_clone_bools rfl (.tmp 27) (.tmp 30) rfl (by first | rfl | go_simp) ho4 (by first | rfl | (go_simp; done) | (go_simp; rfl)) (hSrc w4 hb4) (one_vbI _) (by rw [hl4]; unfold maxLen; omega) (by rw [hl4]; omega) (Nat.le_trans hbs3 hg4.size) ?_
                      intro v5 w5 ho5 hg5 hat5
                      try go_simp
                      try (refine hK _ _ ?_; clear hK K)
                      have hbW5 : Below w.heap.size w w5 := hb4.grown hg5 hb4.size (fun j hj => Nat.le_trans hs0 (ho4.lt j hj).1)
                      rw [hIN.out] at ho5
                      (refine wpAny_take (i := 13) (v := ?_) rfl (by kernel_rfl) (by kernel_rfl) (by kernel_rfl) (fun _ _ _ h => h) (Or.inl ⟨by first | (go_simp; done) | rfl, ?_⟩) ?_; rotate_left 1; (intro w; go_simp; try rfl))
                      refine wpAny_done (by kernel_rfl) ?_ _
                      obtain ⟨A5, c5, e5⟩ := ho5.form
                      rw [List.length_map, hLI.out] at e5
                      subst e5
                      have hbw : Below w.heap.size w w5 := hbW5
                      have cP := ref_Places A5 (n + 1) c5 (insL l k b) p w5 ho5.reads (by omega) HPP
                      go_wp2_with (go_at_call 67; refine cP.mono ?_; clear cP; rintro e w6 ⟨rfl, rfl⟩)
                      go_roundw
                      case rel => exact ⟨z + 1, hzn, by omega, by go_num, hbw⟩
                      case measure => simp [intOf]; omega
      · have hkk : k < k0 := by omega
        have j1 : ¬ (z : Int) < 2 := by omega
        go_wp2
        go_roundw
        case rel => exact ⟨k + 1, by omega, by go_num, hbel⟩
        case measure => simp [intOf]; omega
set_option maxRecDepth 100000 in
set_option maxHeartbeats 3200000 in
theorem ref_Drops_nil (c : Nat) (b0 : Bool) (a : Int) (w : World) (ha : Hid (placesOf (insL [] 0 b0) = a)) :
    Calls Try.prog 39 #[.int .i64 a, .slice none 0 c] w (RetLB w (insL [] 0 b0)) := by
  have H : Hid (([] : List Bool).length = 0) := rfl
  obtain ⟨z0, hz0⟩ : ∃ z : Nat, z = if b0 then 1 else 0 := ⟨_, rfl⟩
  have HZ0 := Lib.hid hz0
  have hz01 : z0 ≤ 1 := by rw [hz0]; split <;> omega
  have h : Reads w w.heap.size none 0 (vb []) := Reads.none_
  clear hz0
  go_enter Try.func39, Try.ntmps39
  go_wp2
  refine wp_loop_rounds 1 ?_
  rw [rounds_succ]
  go_wp2
  go_loopw [7] (fun bv wr => ∃ z : Nat, z ≤ z0 ∧ bv = .int .i64 z ∧ Below w.heap.size w wr) (fun bv _ => 2 - (intOf bv).toNat)
  case atStart => exact ⟨0, by omega, rfl, Below.refl _ _⟩
  case round =>
    obtain ⟨z, hz, rfl, hbel⟩ := hrel
    have j1 : (z : Int) < 2 := by omega
    obtain ⟨b, hb⟩ : ∃ b, ((z : Int) == 1) = b := ⟨_, rfl⟩
    have hbz : b = decide (z = 1) := by rw [← hb, Bool.eq_iff_iff]; simp; omega
    obtain ⟨p, hp⟩ : ∃ p, placesOf (insL [] 0 b) = p := ⟨_, rfl⟩
    have HPP := Lib.hid hp
    have hzn : p ≠ a → z + 1 ≤ z0 := by
      intro hne
      rcases Nat.lt_or_ge z z0 with h2 | h2
      · omega
      · exfalso
        apply hne
        rw [← hp, ← ha.out, hbz]
        congr 2
        have h3 : z = z0 := by omega
        rw [h3, HZ0.out]
        cases b0 <;> rfl
    have hLI : Hid ((insL [] 0 b).length = 1) := rfl
    have hIN : Hid (vb ([] : List Bool) ++ vb [b] ++ vb (([] : List Bool).drop 0) = vb (insL [] 0 b)) := rfl
    have hSrc : ∀ W : World, Below w.heap.size w W → Reads W w.heap.size (none : Option Addr) 0 (vb (([] : List Bool).drop 0)) := fun W _ => Reads.none_
    clear hp hbz
    by_cases hpa : p = a
    ·
      have HEQ : Hid (insL [] 0 b = insL [] 0 b0) := ins_uniq (Nat.le_refl _) (Nat.le_refl _) (by rw [HPP.out, hpa, ha.out])
      have j9 : (p == a) = true := by simpa using hpa
      clear hpa hzn
      go_wp2
      refine wp_region_any (by kernel_rfl) ?_
      try (change wpAny _ _ _ _ _ _ _ (World.drew _))
      obtain ⟨wd, hwd⟩ : ∃ wd, wd = wr.drew := ⟨_, rfl⟩
      rw [← hwd]
      have hbD : Below w.heap.size w wd := by rw [hwd]; exact hbel.drew
      clear hwd
      have hsz := hbD.size
      (refine wpAny_take (i := 1) (v := ?_) rfl (by kernel_rfl) (by kernel_rfl) (by kernel_rfl) (fun _ _ _ h => h) (Or.inl ⟨by first | (go_simp; done) | rfl, ?_⟩) ?_; rotate_left 1; (intro w; go_simp; try rfl))
      (refine wpAny_take (i := 2) (v := ?_) rfl (by kernel_rfl) (by kernel_rfl) (by kernel_rfl) (fun _ _ _ h => h) (Or.inl ⟨by first | (go_simp; done) | rfl, ?_⟩) ?_; rotate_left 1; (intro w; go_simp; try rfl))
      (refine wpAny_take (i := 3) (v := ?_) rfl (by kernel_rfl) (by kernel_rfl) (by kernel_rfl) (fun _ _ _ h => h) (Or.inl ⟨by first | (go_simp; done) | rfl, ?_⟩) ?_; rotate_left 1; (intro w; go_simp; try rfl))
      (refine wpAny_take (i := 5) (v := ?_) rfl (by kernel_rfl) (by kernel_rfl) (by kernel_rfl) (fun _ _ _ h => h) (Or.inl ⟨by first | (go_simp; done) | rfl, ?_⟩) ?_; rotate_left 1; (intro w; go_simp; try rfl))
      (refine wpAny_take (i := 6) (v := ?_) rfl (by kernel_rfl) (by kernel_rfl) (by kernel_rfl) (fun _ _ _ h => h) (Or.inl ⟨by first | (go_simp; done) | rfl, ?_⟩) ?_; rotate_left 1; (intro w; go_simp; try rfl))
      (refine wpAny_take (i := 9) (v := ?_) rfl (by kernel_rfl) (by kernel_rfl) (by kernel_rfl) (fun _ _ _ h => h) (Or.inl ⟨by first | (go_simp; done) | rfl, ?_⟩) ?_; rotate_left 1; (intro w; go_simp; try rfl))
      (refine wpAny_take (i := 10) (v := ?_) rfl (by kernel_rfl) (by kernel_rfl) (by kernel_rfl) (fun _ _ _ h => h) (Or.inl ⟨by first | (go_simp; done) | rfl, ?_⟩) ?_; rotate_left 1; (intro w; go_simp; try rfl))
      (refine wpAny_take (i := 11) (v := ?_) rfl (by kernel_rfl) (by kernel_rfl) (by kernel_rfl) (fun _ _ _ h => h) (Or.inl ⟨by first | (go_simp; done) | rfl, ?_⟩) ?_; rotate_left 1; (intro w; go_simp; try rfl))
      refine wpAny_ready (rs := [0, 7]) (by kernel_rfl) (by simp) ?_
      refine (AllReady.cons rfl (fun K hK => ?_) (AllReady.cons rfl (fun K hK => ?_) AllReady.nil))
      ·
        go_simp
        refine hK _ _ ?_
        clear hK K
        refine wpAny_ready (rs := [4, 7]) (by kernel_rfl) (by simp) ?_
        refine (AllReady.cons rfl (fun K hK => ?_) (AllReady.cons rfl (fun K hK => ?_) AllReady.nil))
        ·
          have hoE : Own (wd.alloc (.cells #[] 4)) wd.heap.size 4 (.slice (some ⟨wd.heap.size, 0, none⟩) 0 0) [] := Own.built (wd) #[] 0 rfl (by unfold maxLen; omega) (Nat.le_refl _)
          have hbE : Below w.heap.size w (wd.alloc (.cells #[] 4)) := hbD.alloc hsz _
          have hF := (h).below hbE
          refine step_appG el_clone_bools rfl (.tmp 19) (.tmp 22) rfl (by first | rfl | go_simp) hoE (by first | rfl | (go_simp; done) | (go_simp; rfl)) hF (one_vbI _) (by show 0 + 0 ≤ maxLen; unfold maxLen; omega) (by show (0 + 0) * 1 ≤ _; omega) (by simp) ?_
          intro v3 w3 ho3 hg3 hat3
          try go_simp
          try (refine hK _ _ ?_; clear hK K)
          rw [List.nil_append] at ho3
          have hb3 : Below w.heap.size w w3 := hbE.grown hg3 (by first | (simp; done) | (simp; omega)) (fun j hj => by have := (hoE.lt j hj).1; omega)
          have hs0 : w.heap.size ≤ wd.heap.size := hsz
          have hbs3 : wd.heap.size ≤ w3.heap.size := by have := hg3.size; simp at this; omega
          have hl3 : (vb ([] : List Bool)).length = 0 := rfl
          refine wpAny_ready (rs := [7]) (by kernel_rfl) (by simp) ?_
          refine (AllReady.cons rfl (fun K hK => ?_) AllReady.nil)
          ·
            go_simp
            refine hK _ _ ?_
            clear hK K
            have hr26 : Reads (w3.alloc (.cells #[.bool b] 4)) (w3.heap.size + 1) (some ⟨w3.heap.size, 0, none⟩) 1 (vb [b]) := reads_lay w3 #[.bool b] 4 1 rfl
            have ho3 := ho3.alloc (.cells #[.bool b] 4)
            have hb3 := hb3.alloc hb3.size (.cells #[.bool b] 4)
            have hbs3 : wd.heap.size ≤ (w3.alloc (.cells #[.bool b] 4)).heap.size := by simp; omega
            refine wpAny_ready (rs := [8]) (by kernel_rfl) (by simp) ?_
            refine (AllReady.cons rfl (fun K hK => ?_) AllReady.nil)
            ·
              refine step_appG el_clone_bools rfl (.tmp 23) (.tmp 26) rfl (by first | rfl | go_simp) ho3 (by first | rfl | (go_simp; done) | (go_simp; rfl)) hr26 (one_vbI _) (by rw [hl3]; unfold maxLen; omega) (by rw [hl3]; omega) hbs3 ?_
              intro v4 w4 ho4 hg4 hat4
              try go_simp
              try (refine hK _ _ ?_; clear hK K)
              have hb4 : Below w.heap.size w w4 := hb3.grown hg4 hb3.size (fun j hj => Nat.le_trans hs0 (ho3.lt j hj).1)
              have hl4 : (vb ([] : List Bool) ++ vb [b]).length = 1 := by rw [List.length_append, hl3]; rfl
              refine wpAny_ready (rs := [12]) (by kernel_rfl) (by simp) ?_
              refine (AllReady.cons rfl (fun K hK => ?_) AllReady.nil)
              ·
                refine step_appG el_clone_bools rfl (.tmp 27) (.tmp 30) rfl (by first | rfl | go_simp) ho4 (by first | rfl | (go_simp; done) | (go_simp; rfl)) (hSrc w4 hb4) (one_vbI _) (by rw [hl4]; unfold maxLen; omega) (by rw [hl4]; omega) (Nat.le_trans hbs3 hg4.size) ?_
                intro v5 w5 ho5 hg5 hat5
                try go_simp
                try (refine hK _ _ ?_; clear hK K)
                have hbW5 : Below w.heap.size w w5 := hb4.grown hg5 hb4.size (fun j hj => Nat.le_trans hs0 (ho4.lt j hj).1)
                rw [hIN.out] at ho5
                (refine wpAny_take (i := 13) (v := ?_) rfl (by kernel_rfl) (by kernel_rfl) (by kernel_rfl) (fun _ _ _ h => h) (Or.inl ⟨by first | (go_simp; done) | rfl, ?_⟩) ?_; rotate_left 1; (intro w; go_simp; try rfl))
                refine wpAny_done (by kernel_rfl) ?_ _
                obtain ⟨A5, c5, e5⟩ := ho5.form
                rw [List.length_map, hLI.out] at e5
                subst e5
                have hbw : Below w.heap.size w w5 := hbW5
                have cP := ref_Places A5 1 c5 (insL [] 0 b) p w5 ho5.reads (by omega) HPP
                go_wp2_with (go_at_call 67; refine cP.mono ?_; clear cP; rintro e w6 ⟨rfl, rfl⟩)
                go_ret2
                exact ⟨A5, 1, c5, rfl, by rw [← HEQ.out]; exact ho5.reads, hbw⟩
        ·
          go_simp
          refine hK _ _ ?_
          clear hK K
          have hoE : Own ((wd.alloc (.cells #[] 4)).alloc (.cells #[.bool b] 4)) wd.heap.size 4 (.slice (some ⟨wd.heap.size, 0, none⟩) 0 0) [] := (Own.built (wd) #[] 0 rfl (by unfold maxLen; omega) (Nat.le_refl _)).alloc _
          have hbE : Below w.heap.size w ((wd.alloc (.cells #[] 4)).alloc (.cells #[.bool b] 4)) := (hbD.alloc hsz _).alloc (by simp; omega) _
          have hF := (h).below hbE
          have hrB : Reads ((wd.alloc (.cells #[] 4)).alloc (.cells #[.bool b] 4)) (wd.heap.size + 2) (some ⟨wd.heap.size + 1, 0, none⟩) 1 (vb [b]) := by have := reads_lay (wd.alloc (.cells #[] 4)) #[.bool b] 4 1 rfl; simpa using this
          refine wpAny_ready (rs := [4]) (by kernel_rfl) (by simp) ?_
          refine (AllReady.cons rfl (fun K hK => ?_) AllReady.nil)
          ·
            refine step_appG el_clone_bools rfl (.tmp 19) (.tmp 22) rfl (by first | rfl | go_simp) hoE (by first | rfl | (go_simp; done) | (go_simp; rfl)) hF (one_vbI _) (by show 0 + 0 ≤ maxLen; unfold maxLen; omega) (by show (0 + 0) * 1 ≤ _; omega) (by first | (simp; done) | (simp; omega)) ?_
            intro v3 w3 ho3 hg3 hat3
            try go_simp
            try (refine hK _ _ ?_; clear hK K)
            rw [List.nil_append] at ho3
            have hb3 : Below w.heap.size w w3 := hbE.grown hg3 (by first | (simp; done) | (simp; omega)) (fun j hj => by have := (hoE.lt j hj).1; omega)
            have hs0 : w.heap.size ≤ wd.heap.size := hsz
            have hbs3 : wd.heap.size ≤ w3.heap.size := by have := hg3.size; simp at this; omega
            have hl3 : (vb ([] : List Bool)).length = 0 := rfl
            have hr26 : Reads w3 (wd.heap.size + 2) (some ⟨wd.heap.size + 1, 0, none⟩) 1 (vb [b]) := hrB.keepNe hg3 (by simp) (fun ad e e2 => by injection e with e; subst e; have e3 : some wd.heap.size = some (wd.heap.size + 1) := e2; injection e3 with e3; omega)
            refine wpAny_ready (rs := [8]) (by kernel_rfl) (by simp) ?_
            refine (AllReady.cons rfl (fun K hK => ?_) AllReady.nil)
            ·
              refine step_appG el_clone_bools rfl (.tmp 23) (.tmp 26) rfl (by first | rfl | go_simp) ho3 (by first | rfl | (go_simp; done) | (go_simp; rfl)) hr26 (one_vbI _) (by rw [hl3]; unfold maxLen; omega) (by rw [hl3]; omega) hbs3 ?_
              intro v4 w4 ho4 hg4 hat4
              try go_simp
              try (refine hK _ _ ?_; clear hK K)
              have hb4 : Below w.heap.size w w4 := hb3.grown hg4 hb3.size (fun j hj => Nat.le_trans hs0 (ho3.lt j hj).1)
              have hl4 : (vb ([] : List Bool) ++ vb [b]).length = 1 := by rw [List.length_append, hl3]; rfl
              refine wpAny_ready (rs := [12]) (by kernel_rfl) (by simp) ?_
              refine (AllReady.cons rfl (fun K hK => ?_) AllReady.nil)
              ·
                refine step_appG el_clone_bools rfl (.tmp 27) (.tmp 30) rfl (by first | rfl | go_simp) ho4 (by first | rfl | (go_simp; done) | (go_simp; rfl)) (hSrc w4 hb4) (one_vbI _) (by rw [hl4]; unfold maxLen; omega) (by rw [hl4]; omega) (Nat.le_trans hbs3 hg4.size) ?_
                intro v5 w5 ho5 hg5 hat5
                try go_simp
                try (refine hK _ _ ?_; clear hK K)
                have hbW5 : Below w.heap.size w w5 := hb4.grown hg5 hb4.size (fun j hj => Nat.le_trans hs0 (ho4.lt j hj).1)
                rw [hIN.out] at ho5
                (refine wpAny_take (i := 13) (v := ?_) rfl (by kernel_rfl) (by kernel_rfl) (by kernel_rfl) (fun _ _ _ h => h) (Or.inl ⟨by first | (go_simp; done) | rfl, ?_⟩) ?_; rotate_left 1; (intro w; go_simp; try rfl))
                refine wpAny_done (by kernel_rfl) ?_ _
                obtain ⟨A5, c5, e5⟩ := ho5.form
                rw [List.length_map, hLI.out] at e5
                subst e5
                have hbw : Below w.heap.size w w5 := hbW5
                have cP := ref_Places A5 1 c5 (insL [] 0 b) p w5 ho5.reads (by omega) HPP
                go_wp2_with (go_at_call 67; refine cP.mono ?_; clear cP; rintro e w6 ⟨rfl, rfl⟩)
                go_ret2
                exact ⟨A5, 1, c5, rfl, by rw [← HEQ.out]; exact ho5.reads, hbw⟩
      ·
        go_simp
        refine hK _ _ ?_
        clear hK K
        refine wpAny_ready (rs := [0]) (by kernel_rfl) (by simp) ?_
        refine (AllReady.cons rfl (fun K hK => ?_) AllReady.nil)
        ·
          go_simp
          refine hK _ _ ?_
          clear hK K
          have hoE : Own ((wd.alloc (.cells #[.bool b] 4)).alloc (.cells #[] 4)) (wd.heap.size + 1) 4 (.slice (some ⟨wd.heap.size + 1, 0, none⟩) 0 0) [] := by have := Own.built (E := 4) (base := wd.heap.size + 1) (wd.alloc (.cells #[.bool b] 4)) #[] 0 rfl (by unfold maxLen; omega) (by simp); simpa using this
          have hbE : Below w.heap.size w ((wd.alloc (.cells #[.bool b] 4)).alloc (.cells #[] 4)) := (hbD.alloc hsz _).alloc (by simp; omega) _
          have hF := (h).below hbE
          have hrB : Reads ((wd.alloc (.cells #[.bool b] 4)).alloc (.cells #[] 4)) (wd.heap.size + 1) (some ⟨wd.heap.size, 0, none⟩) 1 (vb [b]) := (by have := reads_lay wd #[.bool b] 4 1 rfl; exact this.alloc (by simp) _)
          refine wpAny_ready (rs := [4]) (by kernel_rfl) (by simp) ?_
          refine (AllReady.cons rfl (fun K hK => ?_) AllReady.nil)
          ·
            refine step_appG el_clone_bools rfl (.tmp 19) (.tmp 22) rfl (by first | rfl | go_simp) hoE (by first | rfl | (go_simp; done) | (go_simp; rfl)) hF (one_vbI _) (by show 0 + 0 ≤ maxLen; unfold maxLen; omega) (by show (0 + 0) * 1 ≤ _; omega) (by first | (simp; done) | (simp; omega)) ?_
            intro v3 w3 ho3 hg3 hat3
            try go_simp
            try (refine hK _ _ ?_; clear hK K)
            rw [List.nil_append] at ho3
            have hb3 : Below w.heap.size w w3 := hbE.grown hg3 (by first | (simp; done) | (simp; omega)) (fun j hj => by have := (hoE.lt j hj).1; omega)
            have hs0 : w.heap.size ≤ wd.heap.size + 1 := by omega
            have hbs3 : wd.heap.size + 1 ≤ w3.heap.size := by have := hg3.size; simp at this; omega
            have hl3 : (vb ([] : List Bool)).length = 0 := rfl
            have hr26 : Reads w3 (wd.heap.size + 1) (some ⟨wd.heap.size, 0, none⟩) 1 (vb [b]) := hrB.keepNe hg3 (by simp) (fun ad e e2 => by injection e with e; subst e; have e3 : some (wd.heap.size + 1) = some wd.heap.size := e2; injection e3 with e3; omega)
            refine wpAny_ready (rs := [8]) (by kernel_rfl) (by simp) ?_
            refine (AllReady.cons rfl (fun K hK => ?_) AllReady.nil)
            ·
              refine step_appG el_clone_bools rfl (.tmp 23) (.tmp 26) rfl (by first | rfl | go_simp) ho3 (by first | rfl | (go_simp; done) | (go_simp; rfl)) hr26 (one_vbI _) (by rw [hl3]; unfold maxLen; omega) (by rw [hl3]; omega) hbs3 ?_
              intro v4 w4 ho4 hg4 hat4
              try go_simp
              try (refine hK _ _ ?_; clear hK K)
              have hb4 : Below w.heap.size w w4 := hb3.grown hg4 hb3.size (fun j hj => Nat.le_trans hs0 (ho3.lt j hj).1)
              have hl4 : (vb ([] : List Bool) ++ vb [b]).length = 1 := by rw [List.length_append, hl3]; rfl
              refine wpAny_ready (rs := [12]) (by kernel_rfl) (by simp) ?_
              refine (AllReady.cons rfl (fun K hK => ?_) AllReady.nil)
              ·
                refine step_appG el_clone_bools rfl (.tmp 27) (.tmp 30) rfl (by first | rfl | go_simp) ho4 (by first | rfl | (go_simp; done) | (go_simp; rfl)) (hSrc w4 hb4) (one_vbI _) (by rw [hl4]; unfold maxLen; omega) (by rw [hl4]; omega) (Nat.le_trans hbs3 hg4.size) ?_
                intro v5 w5 ho5 hg5 hat5
                try go_simp
                try (refine hK _ _ ?_; clear hK K)
                have hbW5 : Below w.heap.size w w5 := hb4.grown hg5 hb4.size (fun j hj => Nat.le_trans hs0 (ho4.lt j hj).1)
                rw [hIN.out] at ho5
                (refine wpAny_take (i := 13) (v := ?_) rfl (by kernel_rfl) (by kernel_rfl) (by kernel_rfl) (fun _ _ _ h => h) (Or.inl ⟨by first | (go_simp; done) | rfl, ?_⟩) ?_; rotate_left 1; (intro w; go_simp; try rfl))
                refine wpAny_done (by kernel_rfl) ?_ _
                obtain ⟨A5, c5, e5⟩ := ho5.form
                rw [List.length_map, hLI.out] at e5
                subst e5
                have hbw : Below w.heap.size w w5 := hbW5
                have cP := ref_Places A5 1 c5 (insL [] 0 b) p w5 ho5.reads (by omega) HPP
                go_wp2_with (go_at_call 67; refine cP.mono ?_; clear cP; rintro e w6 ⟨rfl, rfl⟩)
                go_ret2
                exact ⟨A5, 1, c5, rfl, by rw [← HEQ.out]; exact ho5.reads, hbw⟩
    ·
      have j9 : (p == a) = false := by simpa using hpa
      have hzn := hzn hpa
      clear hpa
      go_wp2
      refine wp_region_any (by kernel_rfl) ?_
      try (change wpAny _ _ _ _ _ _ _ (World.drew _))
      obtain ⟨wd, hwd⟩ : ∃ wd, wd = wr.drew := ⟨_, rfl⟩
      rw [← hwd]
      have hbD : Below w.heap.size w wd := by rw [hwd]; exact hbel.drew
      clear hwd
      have hsz := hbD.size
      (refine wpAny_take (i := 1) (v := ?_) rfl (by kernel_rfl) (by kernel_rfl) (by kernel_rfl) (fun _ _ _ h => h) (Or.inl ⟨by first | (go_simp; done) | rfl, ?_⟩) ?_; rotate_left 1; (intro w; go_simp; try rfl))
      (refine wpAny_take (i := 2) (v := ?_) rfl (by kernel_rfl) (by kernel_rfl) (by kernel_rfl) (fun _ _ _ h => h) (Or.inl ⟨by first | (go_simp; done) | rfl, ?_⟩) ?_; rotate_left 1; (intro w; go_simp; try rfl))
      (refine wpAny_take (i := 3) (v := ?_) rfl (by kernel_rfl) (by kernel_rfl) (by kernel_rfl) (fun _ _ _ h => h) (Or.inl ⟨by first | (go_simp; done) | rfl, ?_⟩) ?_; rotate_left 1; (intro w; go_simp; try rfl))
      (refine wpAny_take (i := 5) (v := ?_) rfl (by kernel_rfl) (by kernel_rfl) (by kernel_rfl) (fun _ _ _ h => h) (Or.inl ⟨by first | (go_simp; done) | rfl, ?_⟩) ?_; rotate_left 1; (intro w; go_simp; try rfl))
      (refine wpAny_take (i := 6) (v := ?_) rfl (by kernel_rfl) (by kernel_rfl) (by kernel_rfl) (fun _ _ _ h => h) (Or.inl ⟨by first | (go_simp; done) | rfl, ?_⟩) ?_; rotate_left 1; (intro w; go_simp; try rfl))
      (refine wpAny_take (i := 9) (v := ?_) rfl (by kernel_rfl) (by kernel_rfl) (by kernel_rfl) (fun _ _ _ h => h) (Or.inl ⟨by first | (go_simp; done) | rfl, ?_⟩) ?_; rotate_left 1; (intro w; go_simp; try rfl))
      (refine wpAny_take (i := 10) (v := ?_) rfl (by kernel_rfl) (by kernel_rfl) (by kernel_rfl) (fun _ _ _ h => h) (Or.inl ⟨by first | (go_simp; done) | rfl, ?_⟩) ?_; rotate_left 1; (intro w; go_simp; try rfl))
      (refine wpAny_take (i := 11) (v := ?_) rfl (by kernel_rfl) (by kernel_rfl) (by kernel_rfl) (fun _ _ _ h => h) (Or.inl ⟨by first | (go_simp; done) | rfl, ?_⟩) ?_; rotate_left 1; (intro w; go_simp; try rfl))
      refine wpAny_ready (rs := [0, 7]) (by kernel_rfl) (by simp) ?_
      refine (AllReady.cons rfl (fun K hK => ?_) (AllReady.cons rfl (fun K hK => ?_) AllReady.nil))
      ·
        go_simp
        refine hK _ _ ?_
        clear hK K
        refine wpAny_ready (rs := [4, 7]) (by kernel_rfl) (by simp) ?_
        refine (AllReady.cons rfl (fun K hK => ?_) (AllReady.cons rfl (fun K hK => ?_) AllReady.nil))
        ·
          have hoE : Own (wd.alloc (.cells #[] 4)) wd.heap.size 4 (.slice (some ⟨wd.heap.size, 0, none⟩) 0 0) [] := Own.built (wd) #[] 0 rfl (by unfold maxLen; omega) (Nat.le_refl _)
          have hbE : Below w.heap.size w (wd.alloc (.cells #[] 4)) := hbD.alloc hsz _
          have hF := (h).below hbE
          refine step_appG el_clone_bools rfl (.tmp 19) (.tmp 22) rfl (by first | rfl | go_simp) hoE (by first | rfl | (go_simp; done) | (go_simp; rfl)) hF (one_vbI _) (by show 0 + 0 ≤ maxLen; unfold maxLen; omega) (by show (0 + 0) * 1 ≤ _; omega) (by simp) ?_
          intro v3 w3 ho3 hg3 hat3
          try go_simp
          try (refine hK _ _ ?_; clear hK K)
          rw [List.nil_append] at ho3
          have hb3 : Below w.heap.size w w3 := hbE.grown hg3 (by first | (simp; done) | (simp; omega)) (fun j hj => by have := (hoE.lt j hj).1; omega)
          have hs0 : w.heap.size ≤ wd.heap.size := hsz
          have hbs3 : wd.heap.size ≤ w3.heap.size := by have := hg3.size; simp at this; omega
          have hl3 : (vb ([] : List Bool)).length = 0 := rfl
          refine wpAny_ready (rs := [7]) (by kernel_rfl) (by simp) ?_
          refine (AllReady.cons rfl (fun K hK => ?_) AllReady.nil)
          ·
            go_simp
            refine hK _ _ ?_
            clear hK K
            have hr26 : Reads (w3.alloc (.cells #[.bool b] 4)) (w3.heap.size + 1) (some ⟨w3.heap.size, 0, none⟩) 1 (vb [b]) := reads_lay w3 #[.bool b] 4 1 rfl
            have ho3 := ho3.alloc (.cells #[.bool b] 4)
            have hb3 := hb3.alloc hb3.size (.cells #[.bool b] 4)
            have hbs3 : wd.heap.size ≤ (w3.alloc (.cells #[.bool b] 4)).heap.size := by simp; omega
            refine wpAny_ready (rs := [8]) (by kernel_rfl) (by simp) ?_
            refine (AllReady.cons rfl (fun K hK => ?_) AllReady.nil)
            ·
              refine step_appG el_clone_bools rfl (.tmp 23) (.tmp 26) rfl (by first | rfl | go_simp) ho3 (by first | rfl | (go_simp; done) | (go_simp; rfl)) hr26 (one_vbI _) (by rw [hl3]; unfold maxLen; omega) (by rw [hl3]; omega) hbs3 ?_
              intro v4 w4 ho4 hg4 hat4
              try go_simp
              try (refine hK _ _ ?_; clear hK K)
              have hb4 : Below w.heap.size w w4 := hb3.grown hg4 hb3.size (fun j hj => Nat.le_trans hs0 (ho3.lt j hj).1)
              have hl4 : (vb ([] : List Bool) ++ vb [b]).length = 1 := by rw [List.length_append, hl3]; rfl
              refine wpAny_ready (rs := [12]) (by kernel_rfl) (by simp) ?_
              refine (AllReady.cons rfl (fun K hK => ?_) AllReady.nil)
              ·
                refine step_appG el_clone_bools rfl (.tmp 27) (.tmp 30) rfl (by first | rfl | go_simp) ho4 (by first | rfl | (go_simp; done) | (go_simp; rfl)) (hSrc w4 hb4) (one_vbI _) (by rw [hl4]; unfold maxLen; omega) (by rw [hl4]; omega) (Nat.le_trans hbs3 hg4.size) ?_
                intro v5 w5 ho5 hg5 hat5
                try go_simp
                try (refine hK _ _ ?_; clear hK K)
                have hbW5 : Below w.heap.size w w5 := hb4.grown hg5 hb4.size (fun j hj => Nat.le_trans hs0 (ho4.lt j hj).1)
                rw [hIN.out] at ho5
                (refine wpAny_take (i := 13) (v := ?_) rfl (by kernel_rfl) (by kernel_rfl) (by kernel_rfl) (fun _ _ _ h => h) (Or.inl ⟨by first | (go_simp; done) | rfl, ?_⟩) ?_; rotate_left 1; (intro w; go_simp; try rfl))
                refine wpAny_done (by kernel_rfl) ?_ _
                obtain ⟨A5, c5, e5⟩ := ho5.form
                rw [List.length_map, hLI.out] at e5
                subst e5
                have hbw : Below w.heap.size w w5 := hbW5
                have cP := ref_Places A5 1 c5 (insL [] 0 b) p w5 ho5.reads (by omega) HPP
                go_wp2_with (go_at_call 67; refine cP.mono ?_; clear cP; rintro e w6 ⟨rfl, rfl⟩)
                go_roundw
                case rel => exact ⟨z + 1, hzn, by go_num, hbw⟩
                case measure => simp [intOf]; omega
        ·
          go_simp
          refine hK _ _ ?_
          clear hK K
          have hoE : Own ((wd.alloc (.cells #[] 4)).alloc (.cells #[.bool b] 4)) wd.heap.size 4 (.slice (some ⟨wd.heap.size, 0, none⟩) 0 0) [] := (Own.built (wd) #[] 0 rfl (by unfold maxLen; omega) (Nat.le_refl _)).alloc _
          have hbE : Below w.heap.size w ((wd.alloc (.cells #[] 4)).alloc (.cells #[.bool b] 4)) := (hbD.alloc hsz _).alloc (by simp; omega) _
          have hF := (h).below hbE
          have hrB : Reads ((wd.alloc (.cells #[] 4)).alloc (.cells #[.bool b] 4)) (wd.heap.size + 2) (some ⟨wd.heap.size + 1, 0, none⟩) 1 (vb [b]) := by have := reads_lay (wd.alloc (.cells #[] 4)) #[.bool b] 4 1 rfl; simpa using this
          refine wpAny_ready (rs := [4]) (by kernel_rfl) (by simp) ?_
          refine (AllReady.cons rfl (fun K hK => ?_) AllReady.nil)
          ·
            refine step_appG el_clone_bools rfl (.tmp 19) (.tmp 22) rfl (by first | rfl | go_simp) hoE (by first | rfl | (go_simp; done) | (go_simp; rfl)) hF (one_vbI _) (by show 0 + 0 ≤ maxLen; unfold maxLen; omega) (by show (0 + 0) * 1 ≤ _; omega) (by first | (simp; done) | (simp; omega)) ?_
            intro v3 w3 ho3 hg3 hat3
            try go_simp
            try (refine hK _ _ ?_; clear hK K)
            rw [List.nil_append] at ho3
            have hb3 : Below w.heap.size w w3 := hbE.grown hg3 (by first | (simp; done) | (simp; omega)) (fun j hj => by have := (hoE.lt j hj).1; omega)
            have hs0 : w.heap.size ≤ wd.heap.size := hsz
            have hbs3 : wd.heap.size ≤ w3.heap.size := by have := hg3.size; simp at this; omega
            have hl3 : (vb ([] : List Bool)).length = 0 := rfl
            have hr26 : Reads w3 (wd.heap.size + 2) (some ⟨wd.heap.size + 1, 0, none⟩) 1 (vb [b]) := hrB.keepNe hg3 (by simp) (fun ad e e2 => by injection e with e; subst e; have e3 : some wd.heap.size = some (wd.heap.size + 1) := e2; injection e3 with e3; omega)
            refine wpAny_ready (rs := [8]) (by kernel_rfl) (by simp) ?_
            refine (AllReady.cons rfl (fun K hK => ?_) AllReady.nil)
            ·
              refine step_appG el_clone_bools rfl (.tmp 23) (.tmp 26) rfl (by first | rfl | go_simp) ho3 (by first | rfl | (go_simp; done) | (go_simp; rfl)) hr26 (one_vbI _) (by rw [hl3]; unfold maxLen; omega) (by rw [hl3]; omega) hbs3 ?_
              intro v4 w4 ho4 hg4 hat4
              try go_simp
              try (refine hK _ _ ?_; clear hK K)
              have hb4 : Below w.heap.size w w4 := hb3.grown hg4 hb3.size (fun j hj => Nat.le_trans hs0 (ho3.lt j hj).1)
              have hl4 : (vb ([] : List Bool) ++ vb [b]).length = 1 := by rw [List.length_append, hl3]; rfl
              refine wpAny_ready (rs := [12]) (by kernel_rfl) (by simp) ?_
              refine (AllReady.cons rfl (fun K hK => ?_) AllReady.nil)
              ·
                refine step_appG el_clone_bools rfl (.tmp 27) (.tmp 30) rfl (by first | rfl | go_simp) ho4 (by first | rfl | (go_simp; done) | (go_simp; rfl)) (hSrc w4 hb4) (one_vbI _) (by rw [hl4]; unfold maxLen; omega) (by rw [hl4]; omega) (Nat.le_trans hbs3 hg4.size) ?_
                intro v5 w5 ho5 hg5 hat5
                try go_simp
                try (refine hK _ _ ?_; clear hK K)
                have hbW5 : Below w.heap.size w w5 := hb4.grown hg5 hb4.size (fun j hj => Nat.le_trans hs0 (ho4.lt j hj).1)
                rw [hIN.out] at ho5
                (refine wpAny_take (i := 13) (v := ?_) rfl (by kernel_rfl) (by kernel_rfl) (by kernel_rfl) (fun _ _ _ h => h) (Or.inl ⟨by first | (go_simp; done) | rfl, ?_⟩) ?_; rotate_left 1; (intro w; go_simp; try rfl))
                refine wpAny_done (by kernel_rfl) ?_ _
                obtain ⟨A5, c5, e5⟩ := ho5.form
                rw [List.length_map, hLI.out] at e5
                subst e5
                have hbw : Below w.heap.size w w5 := hbW5
                have cP := ref_Places A5 1 c5 (insL [] 0 b) p w5 ho5.reads (by omega) HPP
                go_wp2_with (go_at_call 67; refine cP.mono ?_; clear cP; rintro e w6 ⟨rfl, rfl⟩)
                go_roundw
                case rel => exact ⟨z + 1, hzn, by go_num, hbw⟩
                case measure => simp [intOf]; omega
      ·
        go_simp
        refine hK _ _ ?_
        clear hK K
        refine wpAny_ready (rs := [0]) (by kernel_rfl) (by simp) ?_
        refine (AllReady.cons rfl (fun K hK => ?_) AllReady.nil)
        ·
          go_simp
          refine hK _ _ ?_
          clear hK K
          have hoE : Own ((wd.alloc (.cells #[.bool b] 4)).alloc (.cells #[] 4)) (wd.heap.size + 1) 4 (.slice (some ⟨wd.heap.size + 1, 0, none⟩) 0 0) [] := by have := Own.built (E := 4) (base := wd.heap.size + 1) (wd.alloc (.cells #[.bool b] 4)) #[] 0 rfl (by unfold maxLen; omega) (by simp); simpa using this
          have hbE : Below w.heap.size w ((wd.alloc (.cells #[.bool b] 4)).alloc (.cells #[] 4)) := (hbD.alloc hsz _).alloc (by simp; omega) _
          have hF := (h).below hbE
          have hrB : Reads ((wd.alloc (.cells #[.bool b] 4)).alloc (.cells #[] 4)) (wd.heap.size + 1) (some ⟨wd.heap.size, 0, none⟩) 1 (vb [b]) := (by have := reads_lay wd #[.bool b] 4 1 rfl; exact this.alloc (by simp) _)
          refine wpAny_ready (rs := [4]) (by kernel_rfl) (by simp) ?_
          refine (AllReady.cons rfl (fun K hK => ?_) AllReady.nil)
          ·
            refine step_appG el_clone_bools rfl (.tmp 19) (.tmp 22) rfl (by first | rfl | go_simp) hoE (by first | rfl | (go_simp; done) | (go_simp; rfl)) hF (one_vbI _) (by show 0 + 0 ≤ maxLen; unfold maxLen; omega) (by show (0 + 0) * 1 ≤ _; omega) (by first | (simp; done) | (simp; omega)) ?_
            intro v3 w3 ho3 hg3 hat3
            try go_simp
            try (refine hK _ _ ?_; clear hK K)
            rw [List.nil_append] at ho3
            have hb3 : Below w.heap.size w w3 := hbE.grown hg3 (by first | (simp; done) | (simp; omega)) (fun j hj => by have := (hoE.lt j hj).1; omega)
            have hs0 : w.heap.size ≤ wd.heap.size + 1 := by omega
            have hbs3 : wd.heap.size + 1 ≤ w3.heap.size := by have := hg3.size; simp at this; omega
            have hl3 : (vb ([] : List Bool)).length = 0 := rfl
            have hr26 : Reads w3 (wd.heap.size + 1) (some ⟨wd.heap.size, 0, none⟩) 1 (vb [b]) := hrB.keepNe hg3 (by simp) (fun ad e e2 => by injection e with e; subst e; have e3 : some (wd.heap.size + 1) = some wd.heap.size := e2; injection e3 with e3; omega)
            refine wpAny_ready (rs := [8]) (by kernel_rfl) (by simp) ?_
            refine (AllReady.cons rfl (fun K hK => ?_) AllReady.nil)
            ·
              refine step_appG el_clone_bools rfl (.tmp 23) (.tmp 26) rfl (by first | rfl | go_simp) ho3 (by first | rfl | (go_simp; done) | (go_simp; rfl)) hr26 (one_vbI _) (by rw [hl3]; unfold maxLen; omega) (by rw [hl3]; omega) hbs3 ?_
              intro v4 w4 ho4 hg4 hat4
              try go_simp
              try (refine hK _ _ ?_; clear hK K)
              have hb4 : Below w.heap.size w w4 := hb3.grown hg4 hb3.size (fun j hj => Nat.le_trans hs0 (ho3.lt j hj).1)
              have hl4 : (vb ([] : List Bool) ++ vb [b]).length = 1 := by rw [List.length_append, hl3]; rfl
              refine wpAny_ready (rs := [12]) (by kernel_rfl) (by simp) ?_
              refine (AllReady.cons rfl (fun K hK => ?_) AllReady.nil)
              ·
                refine step_appG el_clone_bools rfl (.tmp 27) (.tmp 30) rfl (by first | rfl | go_simp) ho4 (by first | rfl | (go_simp; done) | (go_simp; rfl)) (hSrc w4 hb4) (one_vbI _) (by rw [hl4]; unfold maxLen; omega) (by rw [hl4]; omega) (Nat.le_trans hbs3 hg4.size) ?_
                intro v5 w5 ho5 hg5 hat5
                try go_simp
                try (refine hK _ _ ?_; clear hK K)
                have hbW5 : Below w.heap.size w w5 := hb4.grown hg5 hb4.size (fun j hj => Nat.le_trans hs0 (ho4.lt j hj).1)
                rw [hIN.out] at ho5
                (refine wpAny_take (i := 13) (v := ?_) rfl (by kernel_rfl) (by kernel_rfl) (by kernel_rfl) (fun _ _ _ h => h) (Or.inl ⟨by first | (go_simp; done) | rfl, ?_⟩) ?_; rotate_left 1; (intro w; go_simp; try rfl))
                refine wpAny_done (by kernel_rfl) ?_ _
                obtain ⟨A5, c5, e5⟩ := ho5.form
                rw [List.length_map, hLI.out] at e5
                subst e5
                have hbw : Below w.heap.size w w5 := hbW5
                have cP := ref_Places A5 1 c5 (insL [] 0 b) p w5 ho5.reads (by omega) HPP
                go_wp2_with (go_at_call 67; refine cP.mono ?_; clear cP; rintro e w6 ⟨rfl, rfl⟩)
                go_roundw
                case rel => exact ⟨z + 1, hzn, by go_num, hbw⟩
                case measure => simp [intOf]; omega
theorem drop_Fill_err (A : Option Addr) (n c : Nat) (a z : Int) (w : World) (hn : n ≤ 4611686018427387904) (hz : Hid (12 ≤ n ∧ z = 1 ∨ n ≤ 11 ∧ (a < 0 ∨ (n : Int) + 1 < a) ∧ z = 4)) :
    Calls Try.prog 38 #[.int .i64 a, .slice A n c] w (Ret w (.tuple #[.slice none 0 0, .int .i64 z])) := by
  by_cases h1 : 12 ≤ n
  · obtain rfl : z = 1 := by rcases hz.out with h | h <;> omega
    have i1 : (12 : Int) < (n : Int) + 1 := by omega
    clear hz
    go_enter Try.func38, Try.ntmps38
    go_wp2
    go_ret2
    exact ⟨rfl, rfl⟩
  · have i1 : decide ((12 : Int) < (n : Int) + 1) = false := decide_eq_false (by omega)
    obtain ⟨h2, rfl⟩ : (a < 0 ∨ (n : Int) + 1 < a) ∧ z = 4 := by rcases hz.out with h | h <;> omega
    clear hz
    by_cases h3 : a < 0
    · go_enter Try.func38, Try.ntmps38
      go_wp2
      go_ret2
      exact ⟨rfl, rfl⟩
    · have h4 : (n : Int) + 1 < a := by omega
      go_enter Try.func38, Try.ntmps38
      go_wp2
      go_ret2
      exact ⟨rfl, rfl⟩
theorem ref_Drops (A : Option Addr) (n c k0 : Nat) (b0 : Bool) (a : Int) (l : List Bool) (w : World) (h : Reads w w.heap.size A n (vb l)) (hcap : n ≤ c) (hn : n ≤ 11) (hk0 : k0 ≤ n) (ha : Hid (placesOf (insL l k0 b0) = a)) :
    Calls Try.prog 39 #[.int .i64 a, .slice A n c] w (RetLB w (insL l k0 b0)) := by
  rcases A with _ | ad
  · have hn0 : n = 0 := by
      rcases Nat.eq_zero_or_pos n with h0 | h0
      · exact h0
      · obtain ⟨ad, e, _⟩ := h.cells h0; cases e
    subst hn0
    have hl : l = [] := List.eq_nil_of_length_eq_zero h.bool_len
    subst hl
    obtain rfl : k0 = 0 := by omega
    exact ref_Drops_nil c b0 a w ha
  · exact ref_Drops_some ad n c k0 b0 a l w h hcap hn hk0 ha
set_option maxHeartbeats 800000 in
theorem DropFills_walk (a : Int) (A : Option Addr) (n c : Nat) (l : List Bool) (w : World) (_ : (Lit.int .i64 a).wf = true) (h : Reads w w.heap.size A n (vb l)) (hm : n * 1 ≤ reachBytes) (hcap : n ≤ c) :
    Calls Try.prog 13 #[.int .i64 a, .slice A n c] w (LawTrue w) := by
  have hn : n ≤ 4611686018427387904 := by have := reachBytes_lt; omega
  clear hm
  by_cases h1 : 12 ≤ n
  · have c1 := drop_Fill_err A n c a 1 w hn (.inl ⟨h1, rfl⟩)
    have i1 : (12 : Int) ≤ (n : Int) := by omega
    go_enter Try.func13, Try.ntmps13
    go_wp2_with (go_at_call 38; refine c1.mono ?_; clear c1; rintro e w1 ⟨rfl, rfl⟩)
    go_ret
    exact .same _
  have i1 : ¬ (12 : Int) ≤ (n : Int) := by omega
  by_cases h2 : a < 0 ∨ (n : Int) + 1 < a
  · have c1 := drop_Fill_err A n c a 4 w hn (.inr ⟨by omega, h2, rfl⟩)
    by_cases h3 : a < 0
    · clear h2
      go_enter Try.func13, Try.ntmps13
      go_wp2_with (go_at_call 38; refine c1.mono ?_; clear c1; rintro e w1 ⟨rfl, rfl⟩)
      go_ret
      exact .same _
    · have h4 : (n : Int) + 1 < a := by omega
      clear h2
      go_enter Try.func13, Try.ntmps13
      go_wp2_with (go_at_call 38; refine c1.mono ?_; clear c1; rintro e w1 ⟨rfl, rfl⟩)
      go_ret
      exact .same _
  have h3 : 0 ≤ a := by omega
  have h4 : a ≤ (n : Int) + 1 := by omega
  have H := Lib.hid h.bool_len
  obtain ⟨y0, y1⟩ := lack_bd (a := a) (W := weighOf l) (show (0 : Int) < (n : Int) + 2 by omega)
  obtain ⟨y, hy⟩ := Int.eq_ofNat_of_zero_le y0
  have c1 := drop_Fill A n c y a (weighOf l) l w h hcap (by omega) h3 h4 rfl hy (by omega)
  clear y0 y1 hy h2
  have d1 : decide (a < 0) = false := decide_eq_false (by omega)
  have d2 : decide ((n : Int) + 1 < a) = false := decide_eq_false (by omega)
  go_enter Try.func13, Try.ntmps13
  go_wp2_with (first
    | (go_at_call 38; refine c1.mono ?_; clear c1; rintro e w1 ⟨k0, b0, A1, n1, k1, hk0, hpl, rfl, hr1, hb1⟩; have c2 := ref_Drops A n c k0 b0 a l w1 ((h.below hb1).more hb1.size) hcap (by omega) (by rw [← H.out]; exact hk0) hpl; clear hpl; have hlI := insL_len b0 hk0; rw [H.out] at hlI; have HLI := Lib.hid hlI; clear hlI hk0)
    | (go_at_call 39; refine c2.mono ?_; clear c2; rintro e w2 ⟨A2, n2, k2, rfl, hr2, hb2⟩; have c3 := ref_Bools A1 A2 n1 n2 k1 k2 (insL l k0 b0) (insL l k0 b0) true w2 ((hr1.below hb2).more hb2.size) hr2 (by have := hr1.bool_len; have := HLI.out; unfold maxLen; omega) (by simp [Hid]))
    | (go_at_call 25; refine c3.mono ?_; clear c3; rintro e w3 ⟨rfl, m3, rfl⟩))
  go_ret
  exact ⟨rfl, below_drewN (hb1.trans (hb2.mono hb1.size)) m3⟩
end Go.Proofs.Ythbmnaonnebnhaa

import Derived.Test.YtfhpgiidcggobaaAlpho
set_option linter.unusedVariables false
namespace Go.Proofs.Ytfhpgiidcggobaa
open Go.RowKit

theorem alF_len : ∀ (ns : List Nat) (ls : List (List Bool)) (pos : Nat) (ls' : List (List Bool)), (∀ x ∈ ns, x ≤ 8) → (∀ l ∈ ls, l.length ≤ 8) → alF ns ls pos = some ls' → ∀ l ∈ ls', l.length ≤ 8 := by
  intro ns
  induction ns with
  | nil => intro ls pos ls' _ h1 h2; rw [alF] at h2; injection h2 with h2; rw [← h2]; exact h1
  | cons n t ih =>
    intro ls pos ls' h0 h1 h2
    rw [alF] at h2
    split at h2
    · cases h2
    · refine ih _ _ ls' (fun x hx => h0 x (List.mem_cons_of_mem _ hx)) ?_ h2
      intro l hl
      rcases List.mem_append.1 hl with h3 | h3
      · exact h1 l h3
      · rw [List.mem_singleton.1 h3, digitsL_len]; exact h0 n (List.mem_cons_self ..)
theorem lens_nats {l : List Int} (h : lensErr l = 0) : l.length ≤ 8 ∧ ∃ ns : List Nat, l = ns.map (fun x : Nat => (x : Int)) ∧ vi .i64 l = vn .i64 ns ∧ ∀ x ∈ ns, x ≤ 8 := by
  unfold lensErr at h
  split at h
  · omega
  split at h
  · rename_i h8 hall
    rw [List.all_eq_true] at hall
    have hok : ∀ z ∈ l, 0 ≤ z ∧ z ≤ 8 := fun z hz => by have := hall z hz; simp [okLen] at this; exact this
    have e : l = (l.map Int.toNat).map (fun x : Nat => (x : Int)) := by
      rw [List.map_map]
      conv => lhs; rw [← List.map_id l]
      apply List.map_congr_left
      intro z hz
      have := hok z hz
      simp; omega
    refine ⟨by omega, l.map Int.toNat, e, ?_, ?_⟩
    · conv => lhs; rw [e]
      unfold vi vn
      rw [List.map_map]; rfl
    · intro x hx
      obtain ⟨z, hz, rfl⟩ := List.mem_map.1 hx
      have := hok z hz
      omega
  · omega
set_option maxHeartbeats 400000 in
theorem alpha_Make_err (A : Option Addr) (n c : Nat) (l : List Int) (z : Int) (w : World) (h : Reads w w.heap.size A n (vi .i64 l)) (hz : Hid (lensErr l = z)) (h0 : (z != 0) = true) :
    Calls Try.prog 21 #[.slice A n c] w (Ret w (.tuple #[.slice none 0 0, .int .i64 z])) := by
  have cs := kraft_Sum A n c l _ z w h (show Hid (sumRes l = (_, z)) from by unfold Hid sumRes; rw [hz.out])
  generalize (if z = 0 then kraftOf l else 0) = q at *
  go_enter Try.func21, Try.ntmps21
  go_wp2_with (go_at_call 45; refine cs.mono ?_; rintro e w' ⟨rfl, rfl⟩)
  go_ret2
  exact ⟨rfl, rfl⟩
set_option maxHeartbeats 400000 in
theorem AlphaMakes_walk (A : Option Addr) (n c : Nat) (l : List Int) (w : World) (h : Reads w w.heap.size A n (vi .i64 l)) (_ : ∀ z ∈ l, (Lit.int .i64 z).wf = true) (_ : n * 8 ≤ reachBytes) :
    Calls Try.prog 5 #[.slice A n c] w (LawTrue w) := by
  by_cases h0 : lensErr l = 0
  · have cs := kraft_Sum A n c l (kraftOf l) 0 w h (by unfold Hid sumRes; rw [h0]; rfl)
    have c2 := fun (w1 : World) (hb : Below w.heap.size w w1) => ref_LensCheck A n c l 0 w1 ((h.below hb).more hb.size) h0
    obtain ⟨h8, ns, e1, e2, hl⟩ := lens_nats h0
    have hn : n ≤ 8 := by rw [← h.int_len]; exact h8
    have hr := h
    rw [e2] at hr
    obtain ⟨R, hR⟩ : ∃ R, alF ns [] 0 = R := ⟨_, rfl⟩
    have c1 := alpha_Make A n c ns R w hr hn hl ⟨_, cs⟩ hR
    have c3 := fun (w1 : World) (hb : Below w.heap.size w w1) => ref_Ordered A n c ns R w1 ((hr.below hb).more hb.size) hn hl hR
    cases R with
    | none =>
      clear cs hr e1 e2 h0 hR h hl
      go_enter Try.func5, Try.ntmps5
      go_wp2_with (first | (go_at_call 21; refine c1.mono ?_; rintro e w1 ⟨hb1, rfl⟩; have c2 := c2 w1 hb1; have c3 := c3 w1 hb1) | (go_at_call 22; refine c2.mono ?_; rintro e w' ⟨rfl, rfl⟩) | (go_at_call 23; refine c3.mono ?_; rintro e w2 ⟨hb2, rfl⟩))
      go_ret
      exact ⟨rfl, hb1.trans (hb2.mono hb1.size)⟩
    | some ls =>
      have hls := alF_len ns [] 0 ls hl (by simp) hR
      have c4 := fun (A1 A2 : Option Addr) (n1 n2 k1 k2 : Nat) (w2 : World) (g1 : Rows w2 w2.heap.size A1 n1 (ls.map vb)) (g2 : Rows w2 w2.heap.size A2 n2 (ls.map vb)) (hn1 : n1 ≤ 8) => ref_Lists A1 A2 n1 n2 k1 k2 ls ls true w2 g1 g2 (by omega) (fun l hl => by have := hls l hl; omega) (by simp [Hid])
      clear cs hr e1 e2 h0 hR h hl hls
      go_enter Try.func5, Try.ntmps5
      go_wp2_with (first | (go_at_call 21; refine c1.mono ?_; rintro e w1 ⟨hb1, A1, n1, k1, rfl, ho1, hm1⟩; have c2 := c2 w1 hb1; have c3 := c3 w1 hb1) | (go_at_call 22; refine c2.mono ?_; rintro e w' ⟨rfl, rfl⟩) | (go_at_call 23; refine c3.mono ?_; clear c3; rintro e w2 ⟨hb2, A2, n2, k2, rfl, ho2, hm2⟩; have c4 := c4 A1 A2 n1 n2 k1 k2 w2 ((ho1.rows.below hb2).more hb2.size) ho2.rows hm1) | (go_at_call 24; refine c4.mono ?_; rintro e w3 ⟨rfl, m, rfl⟩))
      go_ret
      exact ⟨rfl, below_drewN (hb1.trans (hb2.mono hb1.size)) _⟩
  · have hz : (lensErr l != 0) = true := by simpa using h0
    have c1 := alpha_Make_err A n c l (lensErr l) w h rfl hz
    have c2 := ref_LensCheck A n c l (lensErr l) w h rfl
    clear h0
    generalize lensErr l = z at *
    go_enter Try.func5, Try.ntmps5
    go_wp2_with (first | (go_at_call 21; refine c1.mono ?_; rintro e w1 ⟨rfl, rfl⟩) | (go_at_call 22; refine c2.mono ?_; rintro e w' ⟨rfl, rfl⟩))
    go_ret
    exact .same _
end Go.Proofs.Ytfhpgiidcggobaa

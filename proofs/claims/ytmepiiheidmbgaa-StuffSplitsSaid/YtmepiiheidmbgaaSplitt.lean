import Derived.Test.YtmepiiheidmbgaaSplits
set_option linter.unusedVariables false
namespace Go.Proofs.Ytmepiiheidmbgaa
open Go.RowKit

theorem stuff_Split_big (A : Option Addr) (n c : Nat) (w : World) (hn : 1000 < n) :
    Calls Try.prog 18 #[.slice A n c] w (Ret w (.tuple #[.slice none 0 0, .int .i64 1])) := by
  go_enter Try.func18, Try.ntmps18
  go_wp2
  go_ret2
  exact ⟨rfl, rfl⟩
theorem ref_Splits (A : Option Addr) (n c : Nat) (l : List Bool) (w : World) (h : Reads w w.heap.size A n (vb l)) (hc : n ≤ c) (hn : n ≤ 1000) (R : Option (List (List Bool))) (hRR : Hid (splitR l = R)) :
    Calls Try.prog 19 #[.slice A n c] w (fun e w' => SprP w e w' R) := by
  cases hb : atF l with
  | false =>
    have : R = none := by rw [← hRR.out]; unfold splitR; rw [hb]; rfl
    subst this
    exact ref_Splits_no A n c l w h hc hn hb
  | true =>
    have := atF_len hb
    obtain ⟨ad, rfl, _⟩ := h.cells (by rw [h.bool_len] at this; omega)
    exact ref_Splits_yes ad n c l w h hc hn hb R hRR
theorem splR_short : ∀ (f : Nat) (l : List Bool) (T : List (List Bool)), splR f l = some T → (∀ t ∈ T, t.length ≤ 64)
  | 0, l, T, h => by simp [splR] at h
  | f + 1, l, T, h => by
    by_cases h0 : l.length = 0
    · rw [splR_nil h0] at h; cases h; intro t ht; cases ht
    · by_cases h1 : ffl l = l.length
      · rw [splR_end h0 h1] at h; cases h
      · cases hb : bareR 0 (l.take (ffl l)) with
        | none => rw [splR_bad h0 hb] at h; cases h
        | some t =>
          by_cases ht : 64 < t.length
          · rw [splR_long h0 hb ht] at h; cases h
          · rw [splR_next h0 h1 hb ht] at h
            obtain ⟨T', h2, rfl⟩ := Option.map_eq_some_iff.1 h
            intro u hu
            rcases List.mem_cons.1 hu with rfl | hu
            · omega
            · exact splR_short f _ T' h2 u hu
theorem splitR_fine {l : List Bool} {T : List (List Bool)} (h : splitR l = some T) : T.length ≤ 8 ∧ ∀ t ∈ T, t.length ≤ 64 := by
  unfold splitR splitX at h
  split at h
  · cases hs : splR 1001 (l.drop 8) with
    | none => rw [hs] at h; cases h
    | some T' =>
      rw [hs] at h
      simp only [Option.bind_some] at h
      split at h
      · cases h
      · injection h with h; subst h
        exact ⟨by omega, splR_short _ _ _ hs⟩
  · cases h
set_option maxHeartbeats 800000 in
theorem StuffSplits_walk (A : Option Addr) (n c : Nat) (l : List Bool) (w : World) (h : Reads w w.heap.size A n (vb l)) (_ : n * 1 ≤ reachBytes) (hc : n ≤ c) :
    Calls Try.prog 4 #[.slice A n c] w (LawTrue w) := by
  by_cases hn : 1000 < n
  · have c1 := stuff_Split_big A n c w hn
    go_enter Try.func4, Try.ntmps4
    go_wp2_with (go_at_call 18; refine c1.mono ?_; clear c1; rintro e w1 ⟨rfl, rfl⟩)
    go_ret
    exact .same _
  · have hn2 : n ≤ 1000 := by omega
    obtain ⟨R, hR⟩ : ∃ R, splitR l = R := ⟨_, rfl⟩
    have c1 := stuff_Split A n c l w h hc hn2 R hR
    have c2 := fun (W : World) (hW : Reads W W.heap.size A n (vb l)) => ref_Splits A n c l W hW hc hn2 R hR
    cases R with
    | none =>
      clear hR
      go_enter Try.func4, Try.ntmps4
      go_wp2_with (first
        | (go_at_call 18; refine c1.mono ?_; clear c1; rintro e w1 ⟨rfl, hb1⟩)
        | (go_at_call 19; refine (c2 _ ((h.below hb1).more hb1.size)).mono ?_; clear c2; rintro e w2 ⟨v, rfl, hb2⟩))
      go_ret
      exact ⟨rfl, hb1.trans (hb2.mono hb1.size)⟩
    | some T =>
      obtain ⟨hT8, hTl⟩ := splitR_fine hR
      clear hR
      go_enter Try.func4, Try.ntmps4
      go_wp2_with (first
        | (go_at_call 18; refine c1.mono ?_; clear c1; rintro e w1 ⟨A1, n1, k1, rfl, ho1, hb1⟩)
        | (go_at_call 19; refine (c2 _ ((h.below hb1).more hb1.size)).mono ?_; clear c2; rintro e w2 ⟨A2, n2, k2, rfl, ho2, hb2⟩; have hown1 := ho1.below hb2; have hn1 : n1 ≤ 1000 := (by have := ho1.rows.length; rw [List.length_map] at this; omega))
        | (go_at_call 20; refine (ref_Lists A1 A2 n1 n2 k1 k2 T T true w2 hown1.rows ho2.rows hn1 (fun t ht => by have := hTl t ht; omega) (decide_eq_true rfl)).mono ?_; rintro e w3 ⟨rfl, m3, rfl⟩))
      go_ret
      exact ⟨rfl, below_drewN (hb1.trans (hb2.mono hb1.size)) _⟩
end Go.Proofs.Ytmepiiheidmbgaa

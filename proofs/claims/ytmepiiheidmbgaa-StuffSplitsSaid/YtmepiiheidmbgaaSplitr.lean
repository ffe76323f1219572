import Derived.Test.YtmepiiheidmbgaaSplit
set_option linter.unusedVariables false
namespace Go.Proofs.Ytmepiiheidmbgaa
open Go.RowKit

/-- between two flags -/
structure SpK (l : List Bool) (i s f : Nat) (T : List (List Bool)) : Prop where
  at_ : atF (l.drop s) = true
  lt : s < i
  fr : frF T = l.take (s + 8)
  no : ∀ j, s + 8 ≤ j → j < i → atF (l.drop j) = false
  st : (splR (f + 1) (l.drop (s + 8))).map (T ++ ·) = splitX l
  fuel : l.length - (s + 8) ≤ f
  many : 8 * T.length + (l.length - (s + 8)) ≤ 1000
  long : T.any longF = false
theorem SpK.len {l : List Bool} {i s f : Nat} {T : List (List Bool)} (h : SpK l i s f T) : s + 8 ≤ l.length := by
  have := atF_len h.at_
  rw [List.length_drop] at this
  omega
theorem SpK.start {l : List Bool} (h : atF l = true) (hl : l.length ≤ 1000) : SpK l 1 0 1000 [] := by
  refine ⟨by simpa using h, by omega, ?_, fun j h1 h2 => by omega, ?_, by omega, by simp; omega, rfl⟩
  · have := of_decide_eq_true h
    simp [frF, this]
  · show _ = splR 1001 (l.drop 8)
    simp only [Nat.zero_add]
    cases splR (1000 + 1) (l.drop 8) <;> simp
theorem SpK.skip {l : List Bool} {i s f : Nat} {T : List (List Bool)} (h : SpK l i s f T) (hn : atF (l.drop i) = false ∨ i < s + 8) : SpK l (i + 1) s f T := by
  refine ⟨h.at_, by have := h.lt; omega, h.fr, fun j h1 h2 => ?_, h.st, h.fuel, h.many, h.long⟩
  rcases Nat.lt_or_ge j i with h3 | h3
  · exact h.no j h1 h3
  · obtain rfl : j = i := by omega
    rcases hn with h4 | h4
    · exact h4
    · omega
theorem SpK.ffl {l : List Bool} {i s f : Nat} {T : List (List Bool)} (h : SpK l i s f T) (hi : s + 8 ≤ i) (hat : atF (l.drop i) = true) : ffl (l.drop (s + 8)) = i - (s + 8) := by
  refine ffl_eq (fun j hj => ?_) ?_
  · rw [List.drop_drop]; exact h.no _ (by omega) (by omega)
  · rw [List.drop_drop, show s + 8 + (i - (s + 8)) = i by omega]; exact hat
theorem SpK.bad {l : List Bool} {i s f : Nat} {T : List (List Bool)} (h : SpK l i s f T) (hi : s + 8 ≤ i) (hat : atF (l.drop i) = true) (hb : bareR 0 ((l.drop (s + 8)).take (i - (s + 8))) = none) : splitX l = none := by
  have h8 := atF_len hat
  rw [List.length_drop] at h8
  rw [← h.st, splR_bad (by rw [List.length_drop]; omega) (by rw [h.ffl hi hat]; exact hb)]; rfl
theorem SpK.far {l t : List Bool} {i s f : Nat} {T : List (List Bool)} (h : SpK l i s f T) (hi : s + 8 ≤ i) (hat : atF (l.drop i) = true) (hb : bareR 0 ((l.drop (s + 8)).take (i - (s + 8))) = some t) (ht : 64 < t.length) : splitX l = none := by
  have h8 := atF_len hat
  rw [List.length_drop] at h8
  rw [← h.st, splR_long (by rw [List.length_drop]; omega) (by rw [h.ffl hi hat]; exact hb) ht]; rfl
theorem SpK.next {l t : List Bool} {i s f : Nat} {T : List (List Bool)} (h : SpK l i s f T) (hi : s + 8 ≤ i) (hat : atF (l.drop i) = true) (hb : bareR 0 ((l.drop (s + 8)).take (i - (s + 8))) = some t) (ht : ¬ 64 < t.length) : ∃ f', SpK l (i + 1) i f' (T ++ [t]) := by
  have h8 := atF_len hat
  rw [List.length_drop] at h8
  have hf := h.fuel
  have hm := h.many
  obtain ⟨f, rfl⟩ : ∃ f', f = f' + 1 := ⟨f - 1, by omega⟩
  have hnx := splR_next (f := f + 1) (l := l.drop (s + 8)) (t := t) (by rw [List.length_drop]; omega) (by rw [h.ffl hi hat, List.length_drop]; omega) (by rw [h.ffl hi hat]; exact hb) ht
  refine ⟨f, hat, by omega, ?_, fun j h1 h2 => by omega, ?_, by omega, by simp; omega, ?_⟩
  · rw [frF_push, bare_stF hb, h.fr, ← List.take_add, show s + 8 + (i - (s + 8)) = i by omega]
    have h9 := of_decide_eq_true hat
    rw [← h9, ← List.take_add]
  · rw [← h.st, hnx, map_consL, h.ffl hi hat, List.drop_drop, show s + 8 + (i - (s + 8) + 8) = i + 8 by omega]
  · rw [List.any_append, h.long]; simp [longF]; omega
theorem SpK.end_ {l : List Bool} {i s f : Nat} {T : List (List Bool)} (h : SpK l i s f T) (hi : l.length < i + 8) : splitX l = if l.length = s + 8 then some T else none := by
  split
  · rename_i h1
    rw [← h.st, splR_nil (by rw [List.length_drop]; omega)]; simp
  · rename_i h1
    have h2 := h.len
    rw [← h.st, splR_end (by rw [List.length_drop]; omega) (ffl_none fun j hj => ?_)]
    · rfl
    · rw [List.drop_drop]
      rw [List.length_drop] at hj
      rcases Nat.lt_or_ge (s + 8 + j) i with h3 | h3
      · exact h.no _ (by omega) h3
      · exact atF_short (by rw [List.length_drop]; omega)
theorem SpK.same {l : List Bool} {i s f : Nat} {T : List (List Bool)} (h : SpK l i s f T) : decide (frF T = l) = decide (l.length = s + 8) := by
  rw [h.fr]
  have h2 := h.len
  by_cases h1 : l.length = s + 8
  · rw [decide_eq_true h1, decide_eq_true]; exact List.take_of_length_le (by omega)
  · rw [decide_eq_false h1, decide_eq_false]; intro e
    have := congrArg List.length e
    rw [List.length_take] at this
    omega
def SprP (w : World) (e : Ending) (w' : World) : Option (List (List Bool)) → Prop
  | some T => ∃ A n c, e = .returned (.tuple #[.slice A n c, .bool true]) ∧ OwnR w' w.heap.size 23 (.slice A n c) (T.map vb) ∧ Below w.heap.size w w'
  | none => ∃ v, e = .returned (.tuple #[v, .bool false]) ∧ Below w.heap.size w w'
set_option maxRecDepth 100000 in
set_option maxHeartbeats 1000000 in
theorem ref_Splits_no (A : Option Addr) (n c : Nat) (l : List Bool) (w : World) (h : Reads w w.heap.size A n (vb l)) (hc : n ≤ c) (hn : n ≤ 1000) (hb : Hid (atF l = false)) :
    Calls Try.prog 19 #[.slice A n c] w (fun e w' => SprP w e w' none) := by
  have H := Lib.hid h.bool_len
  go_enter Try.func19, Try.ntmps19
  go_wp2
  go_loopw [4, 5, 6] (fun tv sv iv wr => ∃ i : Nat, tv = .slice none 0 0 ∧ sv = .int .i64 (-1) ∧ iv = .int .i64 (i : Int) ∧ i ≤ n + 1 ∧ Below w.heap.size w wr) (fun _ _ iv _ => n + 1 - (intOf iv).toNat)
  case atStart => exact ⟨0, rfl, rfl, rfl, by omega, Below.refl _ _⟩
  case round =>
    obtain ⟨i, rfl, rfl, rfl, hi, hbel⟩ := hrel
    by_cases hlt : i + 8 ≤ n
    · obtain ⟨ad, rfl, hadb, _⟩ := h.cells (by omega)
      have j1 : ((i : Int) + 8) ≤ (n : Int) := by omega
      have hwr : IntKind.i64.wrap ((i : Int) + 8) = ((i + 8 : Nat) : Int) := by rw [IntKind.wrap_i64]; omega
      have hR : Reads wr w.heap.size (some (ad.add i)) (((i : Int) + 8).toNat - i) (vb ((l.drop i).take 8)) := by
        rw [show ((i : Int) + 8).toNat - i = 8 by omega]; exact ((h.below hbel).dropP (k := i) (by omega)).takeP (by omega)
      have hmx8 : ((i : Int) + 8).toNat - i ≤ maxLen := by unfold maxLen; omega
      have cf := fun (W : World) => ref_Flag W
      have j2 : ((i : Int) + 8) ≤ (c : Int) := by omega
      have j3 : (i : Int) ≤ (i : Int) + 8 := by omega
      have j4 : ¬ c = i := by omega
      have j5 : ¬ c ≤ i := by omega
      have j6 : i + 8 ≤ c := by omega
      have j7 : i + 8 ≤ n := by omega
      have j8 : i ≤ i + 8 := by omega
      have j9 : (0 : Int) ≤ (i : Int) := by omega
      cases hat : atF (l.drop i) with
      | false =>
        go_wp2
        refine wp_region_any (by kernel_rfl) ?_
        try (change wpAny _ _ _ _ _ _ _ (World.drew _))
        (refine wpAny_take (i := 0) (v := ?_) rfl (by kernel_rfl) (by kernel_rfl) (by kernel_rfl) (fun _ _ _ h => h) (Or.inl ⟨by first | (go_simp; done) | rfl, ?_⟩) ?_; rotate_left 1; (intro w; go_simp; try rfl))
        (refine wpAny_take (i := 1) (v := ?_) rfl (by kernel_rfl) (by kernel_rfl) (by kernel_rfl) (fun _ _ _ h => h) (Or.inl ⟨by first | (go_simp; done) | rfl, ?_⟩) ?_; rotate_left 1; (intro w; go_simp; try rfl))
        (refine wpAny_take (i := 2) (v := ?_) rfl (by kernel_rfl) (by kernel_rfl) (by kernel_rfl) (fun _ _ _ h => h) (Or.inl ⟨by first | (go_simp; done) | rfl, ?_⟩) ?_; rotate_left 1; (intro w; go_simp; try rfl))
        (refine wpAny_take (i := 3) (v := ?_) rfl (by kernel_rfl) (by kernel_rfl) (by kernel_rfl) (fun _ _ _ h => h) (Or.inl ⟨by first | (go_simp; done) | rfl, ?_⟩) ?_; rotate_left 1; (intro w; go_simp; try rfl))
        (refine wpAny_take (i := 4) (v := ?_) rfl (by kernel_rfl) (by kernel_rfl) (by kernel_rfl) (fun _ _ _ h => h) (Or.inl ⟨by first | (go_simp; done) | rfl, ?_⟩) ?_; rotate_left 1; (intro w; go_simp; try rfl))
        refine wpAny_ready (rs := [5]) (by kernel_rfl) (by simp) ?_
        refine AllReady.cons rfl (fun K hK => ?_) AllReady.nil
        go_simp
        (go_at_call 53; refine (cf _).mono ?_; clear cf; rintro e w1 ⟨A1, n1, k1, rfl, ho1, hb1⟩)
        try go_simp
        try (refine hK _ _ ?_; clear hK K)
        refine wpAny_ready (rs := [6]) (by kernel_rfl) (by simp) ?_
        refine AllReady.cons rfl (fun K hK => ?_) AllReady.nil
        go_simp
        (go_at_call 16; refine (ref_Bools _ _ _ _ _ _ _ _ false _ (hR.drew.below (hb1.mono hbel.size)) ho1.reads hmx8 hat).mono ?_; rintro e w2 ⟨rfl, m, rfl⟩)
        try go_simp
        try (refine hK _ _ ?_; clear hK K)
        (refine wpAny_take (i := 7) (v := ?_) rfl (by kernel_rfl) (by kernel_rfl) (by kernel_rfl) (fun _ _ _ h => h) (Or.inl ⟨by first | (go_simp; done) | rfl, ?_⟩) ?_; rotate_left 1; (intro w; go_simp; try rfl))
        (refine wpAny_take (i := 8) (v := ?_) rfl (by kernel_rfl) (by kernel_rfl) (by kernel_rfl) (fun _ _ _ h => h) (Or.inl ⟨by first | (go_simp; done) | rfl, ?_⟩) ?_; rotate_left 1; (intro w; go_simp; try rfl))
        try go_simp
        (refine wpAny_take (i := 9) (v := undef) rfl (by kernel_rfl) (by kernel_rfl) (by kernel_rfl) (fun _ _ _ h => h) (Or.inr ⟨by first | (go_simp; done) | rfl, rfl⟩) ?_)
        (refine wpAny_take (i := 10) (v := undef) rfl (by kernel_rfl) (by kernel_rfl) (by kernel_rfl) (fun _ _ _ h => h) (Or.inr ⟨by first | (go_simp; done) | rfl, rfl⟩) ?_)
        (refine wpAny_take (i := 11) (v := undef) rfl (by kernel_rfl) (by kernel_rfl) (by kernel_rfl) (fun _ _ _ h => h) (Or.inr ⟨by first | (go_simp; done) | rfl, rfl⟩) ?_)
        try go_simp
        (refine wpAny_take (i := 12) (v := undef) rfl (by kernel_rfl) (by kernel_rfl) (by kernel_rfl) (fun _ _ _ h => h) (Or.inr ⟨by first | (go_simp; done) | rfl, rfl⟩) ?_)
        (refine wpAny_take (i := 13) (v := undef) rfl (by kernel_rfl) (by kernel_rfl) (by kernel_rfl) (fun _ _ _ h => h) (Or.inr ⟨by first | (go_simp; done) | rfl, rfl⟩) ?_)
        (refine wpAny_take (i := 14) (v := undef) rfl (by kernel_rfl) (by kernel_rfl) (by kernel_rfl) (fun _ _ _ h => h) (Or.inr ⟨by first | (go_simp; done) | rfl, rfl⟩) ?_)
        try go_simp
        (refine wpAny_take (i := 15) (v := undef) rfl (by kernel_rfl) (by kernel_rfl) (by kernel_rfl) (fun _ _ _ h => h) (Or.inr ⟨by first | (go_simp; done) | rfl, rfl⟩) ?_)
        (refine wpAny_take (i := 16) (v := undef) rfl (by kernel_rfl) (by kernel_rfl) (by kernel_rfl) (fun _ _ _ h => h) (Or.inr ⟨by first | (go_simp; done) | rfl, rfl⟩) ?_)
        (refine wpAny_take (i := 17) (v := ?_) rfl (by kernel_rfl) (by kernel_rfl) (by kernel_rfl) (fun _ _ _ h => h) (Or.inl ⟨by first | (go_simp; done) | rfl, ?_⟩) ?_; rotate_left 1; (intro w; go_simp; try rfl))
        refine wpAny_done (by kernel_rfl) ?_ _
        go_wp2
        have hw2 : Below w.heap.size w (w1.drewN m) := below_drewN (hbel.drew.trans (hb1.mono hbel.size)) m
        go_roundw
        case rel => exact ⟨i + 1, rfl, rfl, by go_num, by omega, hw2⟩
        case measure => simp [intOf]; omega
      | true =>
        have hi0 : 0 < i := by
          rcases Nat.eq_zero_or_pos i with h0 | h0
          · subst h0; have := hb.out; simp [this] at hat
          · exact h0
        have j10 : (0 : Int) < (i : Int) := by omega
        have hwr8 : IntKind.i64.wrap ((i : Int) - 8) = (i : Int) - 8 := by rw [IntKind.wrap_i64]; omega
        by_cases hi7 : i ≤ 6
        · have j11 : (i : Int) - 8 < -1 := by omega
          go_wp2
          refine wp_region_any (by kernel_rfl) ?_
          try (change wpAny _ _ _ _ _ _ _ (World.drew _))
          (refine wpAny_take (i := 0) (v := ?_) rfl (by kernel_rfl) (by kernel_rfl) (by kernel_rfl) (fun _ _ _ h => h) (Or.inl ⟨by first | (go_simp; done) | rfl, ?_⟩) ?_; rotate_left 1; (intro w; go_simp; try rfl))
          (refine wpAny_take (i := 1) (v := ?_) rfl (by kernel_rfl) (by kernel_rfl) (by kernel_rfl) (fun _ _ _ h => h) (Or.inl ⟨by first | (go_simp; done) | rfl, ?_⟩) ?_; rotate_left 1; (intro w; go_simp; try rfl))
          (refine wpAny_take (i := 2) (v := ?_) rfl (by kernel_rfl) (by kernel_rfl) (by kernel_rfl) (fun _ _ _ h => h) (Or.inl ⟨by first | (go_simp; done) | rfl, ?_⟩) ?_; rotate_left 1; (intro w; go_simp; try rfl))
          (refine wpAny_take (i := 3) (v := ?_) rfl (by kernel_rfl) (by kernel_rfl) (by kernel_rfl) (fun _ _ _ h => h) (Or.inl ⟨by first | (go_simp; done) | rfl, ?_⟩) ?_; rotate_left 1; (intro w; go_simp; try rfl))
          (refine wpAny_take (i := 4) (v := ?_) rfl (by kernel_rfl) (by kernel_rfl) (by kernel_rfl) (fun _ _ _ h => h) (Or.inl ⟨by first | (go_simp; done) | rfl, ?_⟩) ?_; rotate_left 1; (intro w; go_simp; try rfl))
          refine wpAny_ready (rs := [5]) (by kernel_rfl) (by simp) ?_
          refine AllReady.cons rfl (fun K hK => ?_) AllReady.nil
          go_simp
          (go_at_call 53; refine (cf _).mono ?_; clear cf; rintro e w1 ⟨A1, n1, k1, rfl, ho1, hb1⟩)
          try go_simp
          try (refine hK _ _ ?_; clear hK K)
          refine wpAny_ready (rs := [6]) (by kernel_rfl) (by simp) ?_
          refine AllReady.cons rfl (fun K hK => ?_) AllReady.nil
          go_simp
          (go_at_call 16; refine (ref_Bools _ _ _ _ _ _ _ _ true _ (hR.drew.below (hb1.mono hbel.size)) ho1.reads hmx8 hat).mono ?_; rintro e w2 ⟨rfl, m, rfl⟩)
          try go_simp
          try (refine hK _ _ ?_; clear hK K)
          (refine wpAny_take (i := 7) (v := ?_) rfl (by kernel_rfl) (by kernel_rfl) (by kernel_rfl) (fun _ _ _ h => h) (Or.inl ⟨by first | (go_simp; done) | rfl, ?_⟩) ?_; rotate_left 1; (intro w; go_simp; try rfl))
          (refine wpAny_take (i := 8) (v := ?_) rfl (by kernel_rfl) (by kernel_rfl) (by kernel_rfl) (fun _ _ _ h => h) (Or.inl ⟨by first | (go_simp; done) | rfl, ?_⟩) ?_; rotate_left 1; (intro w; go_simp; try rfl))
          try go_simp
          (refine wpAny_take (i := 9) (v := ?_) rfl (by kernel_rfl) (by kernel_rfl) (by kernel_rfl) (fun _ _ _ h => h) (Or.inl ⟨by first | (go_simp; done) | rfl, ?_⟩) ?_; rotate_left 1; (intro w; go_simp; try rfl))
          (refine wpAny_take (i := 10) (v := ?_) rfl (by kernel_rfl) (by kernel_rfl) (by kernel_rfl) (fun _ _ _ h => h) (Or.inl ⟨by first | (go_simp; done) | rfl, ?_⟩) ?_; rotate_left 1; (intro w; go_simp; try rfl))
          (refine wpAny_take (i := 11) (v := ?_) rfl (by kernel_rfl) (by kernel_rfl) (by kernel_rfl) (fun _ _ _ h => h) (Or.inl ⟨by first | (go_simp; done) | rfl, ?_⟩) ?_; rotate_left 1; (intro w; go_simp; try rfl))
          try go_simp
          (refine wpAny_take (i := 12) (v := ?_) rfl (by kernel_rfl) (by kernel_rfl) (by kernel_rfl) (fun _ _ _ h => h) (Or.inl ⟨by first | (go_simp; done) | rfl, ?_⟩) ?_; rotate_left 1; (intro w; go_simp; try rfl))
          (refine wpAny_take (i := 13) (v := ?_) rfl (by kernel_rfl) (by kernel_rfl) (by kernel_rfl) (fun _ _ _ h => h) (Or.inl ⟨by first | (go_simp; done) | rfl, ?_⟩) ?_; rotate_left 1; (intro w; go_simp; try rfl))
          (refine wpAny_take (i := 14) (v := ?_) rfl (by kernel_rfl) (by kernel_rfl) (by kernel_rfl) (fun _ _ _ h => h) (Or.inl ⟨by first | (go_simp; done) | rfl, ?_⟩) ?_; rotate_left 1; (intro w; go_simp; try rfl))
          try go_simp
          (refine wpAny_take (i := 15) (v := ?_) rfl (by kernel_rfl) (by kernel_rfl) (by kernel_rfl) (fun _ _ _ h => h) (Or.inl ⟨by first | (go_simp; done) | rfl, ?_⟩) ?_; rotate_left 1; (intro w; go_simp; try rfl))
          (refine wpAny_take (i := 16) (v := ?_) rfl (by kernel_rfl) (by kernel_rfl) (by kernel_rfl) (fun _ _ _ h => h) (Or.inl ⟨by first | (go_simp; done) | rfl, ?_⟩) ?_; rotate_left 1; (intro w; go_simp; try rfl))
          (refine wpAny_take (i := 17) (v := ?_) rfl (by kernel_rfl) (by kernel_rfl) (by kernel_rfl) (fun _ _ _ h => h) (Or.inl ⟨by first | (go_simp; done) | rfl, ?_⟩) ?_; rotate_left 1; (intro w; go_simp; try rfl))
          refine wpAny_done (by kernel_rfl) ?_ _
          go_wp2
          go_ret2
          exact ⟨_, rfl, below_drewN (hbel.drew.trans (hb1.mono hbel.size)) _⟩
        · have j11 : ¬ (i : Int) - 8 < -1 := by omega
          go_wp2
          refine wp_region_any (by kernel_rfl) ?_
          try (change wpAny _ _ _ _ _ _ _ (World.drew _))
          (refine wpAny_take (i := 0) (v := ?_) rfl (by kernel_rfl) (by kernel_rfl) (by kernel_rfl) (fun _ _ _ h => h) (Or.inl ⟨by first | (go_simp; done) | rfl, ?_⟩) ?_; rotate_left 1; (intro w; go_simp; try rfl))
          (refine wpAny_take (i := 1) (v := ?_) rfl (by kernel_rfl) (by kernel_rfl) (by kernel_rfl) (fun _ _ _ h => h) (Or.inl ⟨by first | (go_simp; done) | rfl, ?_⟩) ?_; rotate_left 1; (intro w; go_simp; try rfl))
          (refine wpAny_take (i := 2) (v := ?_) rfl (by kernel_rfl) (by kernel_rfl) (by kernel_rfl) (fun _ _ _ h => h) (Or.inl ⟨by first | (go_simp; done) | rfl, ?_⟩) ?_; rotate_left 1; (intro w; go_simp; try rfl))
          (refine wpAny_take (i := 3) (v := ?_) rfl (by kernel_rfl) (by kernel_rfl) (by kernel_rfl) (fun _ _ _ h => h) (Or.inl ⟨by first | (go_simp; done) | rfl, ?_⟩) ?_; rotate_left 1; (intro w; go_simp; try rfl))
          (refine wpAny_take (i := 4) (v := ?_) rfl (by kernel_rfl) (by kernel_rfl) (by kernel_rfl) (fun _ _ _ h => h) (Or.inl ⟨by first | (go_simp; done) | rfl, ?_⟩) ?_; rotate_left 1; (intro w; go_simp; try rfl))
          refine wpAny_ready (rs := [5]) (by kernel_rfl) (by simp) ?_
          refine AllReady.cons rfl (fun K hK => ?_) AllReady.nil
          go_simp
          (go_at_call 53; refine (cf _).mono ?_; clear cf; rintro e w1 ⟨A1, n1, k1, rfl, ho1, hb1⟩)
          try go_simp
          try (refine hK _ _ ?_; clear hK K)
          refine wpAny_ready (rs := [6]) (by kernel_rfl) (by simp) ?_
          refine AllReady.cons rfl (fun K hK => ?_) AllReady.nil
          go_simp
          (go_at_call 16; refine (ref_Bools _ _ _ _ _ _ _ _ true _ (hR.drew.below (hb1.mono hbel.size)) ho1.reads hmx8 hat).mono ?_; rintro e w2 ⟨rfl, m, rfl⟩)
          try go_simp
          try (refine hK _ _ ?_; clear hK K)
          (refine wpAny_take (i := 7) (v := ?_) rfl (by kernel_rfl) (by kernel_rfl) (by kernel_rfl) (fun _ _ _ h => h) (Or.inl ⟨by first | (go_simp; done) | rfl, ?_⟩) ?_; rotate_left 1; (intro w; go_simp; try rfl))
          (refine wpAny_take (i := 8) (v := ?_) rfl (by kernel_rfl) (by kernel_rfl) (by kernel_rfl) (fun _ _ _ h => h) (Or.inl ⟨by first | (go_simp; done) | rfl, ?_⟩) ?_; rotate_left 1; (intro w; go_simp; try rfl))
          try go_simp
          (refine wpAny_take (i := 9) (v := ?_) rfl (by kernel_rfl) (by kernel_rfl) (by kernel_rfl) (fun _ _ _ h => h) (Or.inl ⟨by first | (go_simp; done) | rfl, ?_⟩) ?_; rotate_left 1; (intro w; go_simp; try rfl))
          (refine wpAny_take (i := 10) (v := ?_) rfl (by kernel_rfl) (by kernel_rfl) (by kernel_rfl) (fun _ _ _ h => h) (Or.inl ⟨by first | (go_simp; done) | rfl, ?_⟩) ?_; rotate_left 1; (intro w; go_simp; try rfl))
          (refine wpAny_take (i := 11) (v := ?_) rfl (by kernel_rfl) (by kernel_rfl) (by kernel_rfl) (fun _ _ _ h => h) (Or.inl ⟨by first | (go_simp; done) | rfl, ?_⟩) ?_; rotate_left 1; (intro w; go_simp; try rfl))
          try go_simp
          (refine wpAny_take (i := 12) (v := ?_) rfl (by kernel_rfl) (by kernel_rfl) (by kernel_rfl) (fun _ _ _ h => h) (Or.inl ⟨by first | (go_simp; done) | rfl, ?_⟩) ?_; rotate_left 1; (intro w; go_simp; try rfl))
          (refine wpAny_take (i := 13) (v := ?_) rfl (by kernel_rfl) (by kernel_rfl) (by kernel_rfl) (fun _ _ _ h => h) (Or.inl ⟨by first | (go_simp; done) | rfl, ?_⟩) ?_; rotate_left 1; (intro w; go_simp; try rfl))
          (refine wpAny_take (i := 14) (v := undef) rfl (by kernel_rfl) (by kernel_rfl) (by kernel_rfl) (fun _ _ _ h => h) (Or.inr ⟨by first | (go_simp; done) | rfl, rfl⟩) ?_)
          try go_simp
          (refine wpAny_take (i := 15) (v := undef) rfl (by kernel_rfl) (by kernel_rfl) (by kernel_rfl) (fun _ _ _ h => h) (Or.inr ⟨by first | (go_simp; done) | rfl, rfl⟩) ?_)
          (refine wpAny_take (i := 16) (v := ?_) rfl (by kernel_rfl) (by kernel_rfl) (by kernel_rfl) (fun _ _ _ h => h) (Or.inl ⟨by first | (go_simp; done) | rfl, ?_⟩) ?_; rotate_left 1; (intro w; go_simp; try rfl))
          (refine wpAny_take (i := 17) (v := ?_) rfl (by kernel_rfl) (by kernel_rfl) (by kernel_rfl) (fun _ _ _ h => h) (Or.inl ⟨by first | (go_simp; done) | rfl, ?_⟩) ?_; rotate_left 1; (intro w; go_simp; try rfl))
          refine wpAny_done (by kernel_rfl) ?_ _
          go_wp2
          go_ret2
          exact ⟨_, rfl, below_drewN (hbel.drew.trans (hb1.mono hbel.size)) _⟩
    · have j1 : ¬ ((i : Int) + 8) ≤ (n : Int) := by omega
      go_wp2
      go_ret2
      exact ⟨_, rfl, hbel⟩
end Go.Proofs.Ytmepiiheidmbgaa

import Derived.Test.YtdidahafbcddeaaMull
set_option linter.unusedVariables false
namespace Go.Proofs.Ytdidahafbcddeaa
open Go.RowKit Go.Shelf Go.Sort

def okM (r m : Int) : Bool := decide (0 ≤ m) && decide (m ≤ 4) && decide (0 ≤ r) && decide (r ≤ m)
set_option maxHeartbeats 800000 in
theorem mul_wrong (r m : Int) (w : World) : Calls Try.prog 23 #[.int .i64 r, .int .i64 m] w (Ret w (.int .i64 (if okM r m then 0 else 4))) := by
  by_cases h1 : 0 ≤ m
  · by_cases h2 : m ≤ 4
    · by_cases h3 : 0 ≤ r
      · by_cases h4 : r ≤ m
        · have e : okM r m = true := by simp [okM, h1, h2, h3, h4]
          rw [e]
          have j1 : ¬ m < 0 := by omega
          have j2 : ¬ 4 < m := by omega
          have j3 : ¬ r < 0 := by omega
          have j4 : ¬ m < r := by omega
          clear e
          go_enter Try.func23, Try.ntmps23
          go_wp2
          go_ret
          exact ⟨rfl, rfl⟩
        · have e : okM r m = false := by simp [okM, h1, h2, h3, h4]
          rw [e]
          have j1 : ¬ m < 0 := by omega
          have j2 : ¬ 4 < m := by omega
          have j3 : ¬ r < 0 := by omega
          have j4 : m < r := by omega
          clear e
          go_enter Try.func23, Try.ntmps23
          go_wp2
          go_ret
          exact ⟨rfl, rfl⟩
      · have e : okM r m = false := by simp [okM, h1, h2, h3]
        rw [e]
        have j1 : ¬ m < 0 := by omega
        have j2 : ¬ 4 < m := by omega
        have j3 : r < 0 := by omega
        clear e
        go_enter Try.func23, Try.ntmps23
        go_wp2
        go_ret
        exact ⟨rfl, rfl⟩
    · have e : okM r m = false := by simp [okM, h1, h2]
      rw [e]
      have j1 : ¬ m < 0 := by omega
      have j2 : 4 < m := by omega
      clear e
      go_enter Try.func23, Try.ntmps23
      go_wp2
      go_ret
      exact ⟨rfl, rfl⟩
  · have e : okM r m = false := by simp [okM, h1]
    rw [e]
    have j1 : m < 0 := by omega
    clear e
    go_enter Try.func23, Try.ntmps23
    go_wp2
    go_ret
    exact ⟨rfl, rfl⟩
set_option maxHeartbeats 800000 in
theorem law_check (r m : Int) (w : World) : Calls Try.prog 9 #[.int .i64 r, .int .i64 m] w (Ret w (.int .i64 (if okM r m then 0 else 4))) := by
  by_cases h1 : 0 ≤ m
  · by_cases h2 : m ≤ 4
    · by_cases h3 : 0 ≤ r
      · by_cases h4 : r ≤ m
        · have e : okM r m = true := by simp [okM, h1, h2, h3, h4]
          rw [e]
          have j1 : ¬ m < 0 := by omega
          have j2 : ¬ 4 < m := by omega
          have j3 : ¬ r < 0 := by omega
          have j4 : ¬ m < r := by omega
          clear e
          go_enter Try.func9, Try.ntmps9
          go_wp2
          go_ret
          exact ⟨rfl, rfl⟩
        · have e : okM r m = false := by simp [okM, h1, h2, h3, h4]
          rw [e]
          have j1 : ¬ m < 0 := by omega
          have j2 : ¬ 4 < m := by omega
          have j3 : ¬ r < 0 := by omega
          have j4 : m < r := by omega
          clear e
          go_enter Try.func9, Try.ntmps9
          go_wp2
          go_ret
          exact ⟨rfl, rfl⟩
      · have e : okM r m = false := by simp [okM, h1, h2, h3]
        rw [e]
        have j1 : ¬ m < 0 := by omega
        have j2 : ¬ 4 < m := by omega
        have j3 : r < 0 := by omega
        clear e
        go_enter Try.func9, Try.ntmps9
        go_wp2
        go_ret
        exact ⟨rfl, rfl⟩
    · have e : okM r m = false := by simp [okM, h1, h2]
      rw [e]
      have j1 : ¬ m < 0 := by omega
      have j2 : 4 < m := by omega
      clear e
      go_enter Try.func9, Try.ntmps9
      go_wp2
      go_ret
      exact ⟨rfl, rfl⟩
  · have e : okM r m = false := by simp [okM, h1]
    rw [e]
    have j1 : m < 0 := by omega
    clear e
    go_enter Try.func9, Try.ntmps9
    go_wp2
    go_ret
    exact ⟨rfl, rfl⟩
theorem pop_deg : ∀ p : Fin 16, pop p.val = degU p.val := by decide +kernel
/-- what the reference has found when d and p are reached -/
def prodK (M d p : Nat) : List Nat := ((List.range d).flatMap fun d => (List.range M).filter fun p => decide (degU p = d)) ++ (List.range p).filter fun p => decide (degU p = d)
theorem prodK_next (M d p : Nat) : prodK M d (p + 1) = prodK M d p ++ if degU p = d then [p] else [] := by
  unfold prodK; rw [filt_next, List.append_assoc]; simp
theorem prodK_end (M d : Nat) : prodK M d M = prodK M (d + 1) 0 := by
  unfold prodK; rw [List.range_succ, List.flatMap_append]; simp
theorem prodK_len (M d p : Nat) : (prodK M d p).length ≤ d * M + p := by
  unfold prodK
  rw [List.length_append]
  have h1 := filt_len (fun p => decide (degU p = d)) p
  have h2 : ∀ d, ((List.range d).flatMap fun d => (List.range M).filter fun p => decide (degU p = d)).length ≤ d * M := by
    intro d
    induction d with
    | zero => simp
    | succ d ih =>
      rw [List.range_succ, List.flatMap_append, List.length_append]
      have := filt_len (fun p => decide (degU p = d)) M
      simp only [List.flatMap_cons, List.flatMap_nil, List.append_nil]
      rw [Nat.succ_mul]; omega
  have := h2 d
  omega
set_option maxHeartbeats 800000 in
theorem ref_Products (r m : Nat) (w : World) (hm : m ≤ 4) (hr : r ≤ m) :
    Calls Try.prog 29 #[.int .i64 (r : Int), .int .i64 (m : Int)] w (RetS w 3 (vn .i64 (prodU r (2 ^ m)))) := by
  obtain ⟨M, hM⟩ : ∃ M, 2 ^ m = M := ⟨_, rfl⟩
  have hM2 : M ≤ 16 := by rw [← hM]; exact Nat.pow_le_pow_right (n := 2) (by omega) hm
  have hMi : (2 : Int) ^ m = (M : Int) := by rw [← hM]; exact (Int.natCast_pow 2 m).symm
  have HE : Hid (prodU r M = prodK M (r + 1) 0) := by unfold Hid prodU prodK; simp
  rw [hM]
  clear hM
  have cd := fun (x : Nat) (W : World) (hx : x < 16) => ref_Size x W (by omega)
  go_enter Try.func29, Try.ntmps29
  go_wp2
  go_loopw [5, 6] (fun v dv wr => ∃ d : Nat, d ≤ r + 1 ∧ dv = .int .i64 d ∧ Own wr w.heap.size 3 v (vn .i64 (prodK M d 0)) ∧ Below w.heap.size w wr) (fun _ dv _ => r + 1 - (intOf dv).toNat)
  case atStart => exact ⟨0, by omega, rfl, (by unfold prodK; simpa using Own.nil _ _ _), Below.refl _ _⟩
  case round =>
    obtain ⟨d, hd, rfl, hown, hbel⟩ := hrel
    by_cases hlt : d ≤ r
    · have d1 : (d : Int) ≤ (r : Int) := by omega
      go_wp2
      go_loopw [5, 7] (fun v pv wr => ∃ p : Nat, p ≤ M ∧ pv = .int .i64 p ∧ Own wr w.heap.size 3 v (vn .i64 (prodK M d p)) ∧ Below w.heap.size w wr) (fun _ pv _ => M - (intOf pv).toNat)
      case atStart => exact ⟨0, by omega, rfl, hown, hbel⟩
      case round =>
        clear hown hbel
        obtain ⟨p, hp, rfl, hown, hbel⟩ := hrel
        by_cases hpm : p < M
        · have hl := prodK_len M d p
          have hdm : d * M ≤ 5 * 16 := Nat.mul_le_mul (by omega) hM2
          have hvl : (vn .i64 (prodK M d p)).length ≤ 100 := by rw [List.length_map]; omega
          have HN := Lib.hid (prodK_next M d p)
          have cd := cd p wr (by omega)
          have hpd := pop_deg ⟨p, by omega⟩
          dsimp only at hpd
          rw [hpd] at cd
          have p1 : (p : Int) < (M : Int) := by omega
          have p2 : (p : Int) % 4294967296 = (p : Int) := by omega
          clear hpd hl hdm
          generalize degU p = q at *
          by_cases hqd : q = d
          · have HN2 : Hid (vn .i64 (prodK M d p) ++ [Value.int .i64 (p : Int)] = vn .i64 (prodK M d (p + 1))) := by unfold Hid; rw [HN.out, if_pos hqd]; simp [vn]
            subst hqd
            go_wp2_with (first
              | (go_at_call 31; refine cd.mono ?_; clear cd; rintro e w' ⟨rfl, rfl⟩; have hownt := hown; have hbelt := hbel)
              | (at_builtin; refine app1 el_intU rfl _ _ rfl rfl hownt _ _ rfl rfl (by unfold maxLen; omega) (by omega) hbelt.size ?_; intro v1 w1 ho1 hb1 _ _))
            rw [HN2.out] at ho1
            go_roundw
            case rel => exact ⟨p + 1, by omega, by go_num, ho1, hbelt.trans hb1⟩
            case measure => simp [intOf]; omega
          · have HN2 : Hid (vn .i64 (prodK M d p) = vn .i64 (prodK M d (p + 1))) := by unfold Hid; rw [HN.out, if_neg hqd, List.append_nil]
            have q1 : ¬ (q : Int) = (d : Int) := by omega
            have q2 : ((q : Int) == (d : Int)) = false := by simp; omega
            rw [HN2.out] at hown
            clear hvl
            go_wp2_with (go_at_call 31; refine cd.mono ?_; clear cd; rintro e w' ⟨rfl, rfl⟩; have hownt := hown; have hbelt := hbel)
            go_roundw
            case rel => exact ⟨p + 1, by omega, by go_num, hownt, hbelt⟩
            case measure => simp [intOf]; omega
        · obtain rfl : p = M := by omega
          have p1 : ¬ (p : Int) < (p : Int) := by omega
          rw [prodK_end] at hown
          go_wp2
          go_roundw
          case rel => exact ⟨d + 1, by omega, by go_num, hown, hbel⟩
          case measure => simp [intOf]; omega
    · obtain rfl : d = r + 1 := by omega
      have d1 : ¬ ((r : Int) + 1) ≤ (r : Int) := by omega
      rw [← HE.out] at hown
      obtain ⟨A2, c2, e⟩ := hown.form
      generalize (vn .i64 (prodU r M)).length = N at e
      subst e
      go_wp2
      go_ret
      exact ⟨A2, N, c2, rfl, hown, hbel⟩
theorem okM_nat {r m : Int} (h : okM r m = true) : ∃ a b : Nat, r = (a : Int) ∧ m = (b : Int) ∧ b ≤ 4 ∧ a ≤ b := by
  simp [okM] at h
  exact ⟨r.toNat, m.toNat, by omega, by omega, by omega, by omega⟩
end Go.Proofs.Ytdidahafbcddeaa

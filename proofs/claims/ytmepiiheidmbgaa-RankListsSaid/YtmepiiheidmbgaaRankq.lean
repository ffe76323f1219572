import Derived.Test.YtmepiiheidmbgaaRankp
set_option linter.unusedVariables false
namespace Go.Proofs.Ytmepiiheidmbgaa
open Go.RowKit

theorem vn_viR (K : IntKind) (l : List Nat) : vn K l = vi K (l.map fun x : Nat => (x : Int)) := by unfold vn vi; rw [List.map_map]; rfl
theorem greatest (p : Nat → Prop) [DecidablePred p] : ∀ n, (∃ k, k < n ∧ p k) → ∃ k, k < n ∧ p k ∧ ∀ j, k < j → j < n → ¬ p j
  | 0, h => by obtain ⟨k, h, _⟩ := h; omega
  | n + 1, h => by
    by_cases hn : p n
    · exact ⟨n, by omega, hn, fun j h1 h2 => by omega⟩
    · obtain ⟨k, h1, h2⟩ := h
      have : k ≠ n := fun e => hn (e ▸ h2)
      obtain ⟨k', h3, h4, h5⟩ := greatest p n ⟨k, by omega, h2⟩
      refine ⟨k', by omega, h4, fun j h6 h7 => ?_⟩
      by_cases e : j = n
      · subst e; exact hn
      · exact h5 j h6 (by omega)
theorem next_or (l : List Nat) (hnd : l.Nodup) : l.Pairwise (· > ·) ∨ ∃ i j, NextAt l i j := by
  induction l with
  | nil => exact .inl List.Pairwise.nil
  | cons x t ih =>
    rw [List.nodup_cons] at hnd
    rcases ih hnd.2 with h | ⟨i, j, h⟩
    · cases t with
      | nil => exact .inl (List.pairwise_singleton _ _)
      | cons y t =>
        rcases Nat.lt_or_ge x y with hxy | hxy
        · right
          obtain ⟨j, h1, h2, h3⟩ := greatest (fun k => x < (y :: t).getD k 0) (y :: t).length ⟨0, by simp, by simpa using hxy⟩
          refine ⟨0, j + 1, by omega, by simpa using h1, by simpa using hxy, by simpa using h, by simpa using h2, fun p hp hp2 => ?_⟩
          obtain ⟨p, rfl⟩ : ∃ p', p = p' + 1 := ⟨p - 1, by omega⟩
          have hpl : p < (y :: t).length := by simpa using hp2
          have h4 := h3 p (by omega) hpl
          have hne : (y :: t).getD p 0 ≠ x := by
            intro e
            apply hnd.1
            rw [← e, List.getD_eq_getElem?_getD, List.getElem?_eq_getElem hpl]
            exact List.getElem_mem hpl
          have h5 : ((x :: y :: t).getD (p + 1) 0) = (y :: t).getD p 0 := by simp
          have h6 : ((x :: y :: t).getD 0 0) = x := by simp
          rw [h5, h6]
          omega
        · left
          have hne : x ≠ y := fun e => hnd.1 (by rw [e]; exact List.mem_cons_self ..)
          rw [List.pairwise_cons]
          refine ⟨fun z hz => ?_, h⟩
          rcases List.mem_cons.1 hz with rfl | hz
          · omega
          · have := (List.pairwise_cons.1 h).1 z hz
            omega
    · right
      obtain ⟨h1, h2, h3, h4, h5, h6⟩ := h
      refine ⟨i + 1, j + 1, by omega, by simpa using h2, by simpa using h3, by simpa using h4, by simpa using h5, fun p hp hp2 => ?_⟩
      obtain ⟨p, rfl⟩ : ∃ p', p = p' + 1 := ⟨p - 1, by omega⟩
      have := h6 p (by omega) (by simpa using hp2)
      simpa using this
theorem range_asc (n : Nat) : (List.range n).Pairwise (· < ·) := List.pairwise_lt_range
/-- from one list to the next -/
theorem un_next {n r : Nat} (hr : r < fct n) : (r + 1 = fct n ∧ (unL n (List.range n) r).Pairwise (· > ·)) ∨ (r + 1 < fct n ∧ ∃ i j, NextAt (unL n (List.range n) r) i j ∧ nxL (unL n (List.range n) r) i j = unL n (List.range n) (r + 1)) := by
  have hl : (List.range n).length = n := List.length_range
  have hp := unL_perm n (List.range n) r hl hr
  rcases next_or _ (hp.nodup_iff.2 List.nodup_range) with h | ⟨i, j, h⟩
  · exact .inl ⟨(unL_desc n _ r hl hr (range_asc n) h).1, h⟩
  · have := unL_next i n (List.range n) r j hl hr (range_asc n) h
    exact .inr ⟨this.1, i, j, h, this.2⟩
theorem perm_of_sub : ∀ (a b : List Nat), a.Nodup → b.Nodup → (∀ x ∈ a, x ∈ b) → a.length = b.length → a.Perm b
  | [], b, _, _, _, hl => by rw [List.eq_nil_of_length_eq_zero (l := b) hl.symm]
  | x :: t, b, ha, hb, hs, hl => by
    rw [List.nodup_cons] at ha
    have hx := hs x (List.mem_cons_self ..)
    have hp := List.perm_cons_erase hx
    refine (List.Perm.cons x (perm_of_sub t (b.erase x) ha.2 (hb.erase x) (fun y hy => ?_) ?_)).trans hp.symm
    · refine (hb.mem_erase_iff).2 ⟨fun e => ha.1 (e ▸ hy), hs y (List.mem_cons_of_mem _ hy)⟩
    · rw [List.length_erase_of_mem hx, ← hl]; rfl
theorem once_perm {l : List Int} {n : Nat} (h : onceB l n = true) (hn : l.length = n) : (natsR l).Perm (List.range n) ∧ l = (natsR l).map fun x : Nat => (x : Int) := by
  unfold onceB at h
  simp only [Bool.and_eq_true, decide_eq_true_eq] at h
  have e : l = (natsR l).map fun x : Nat => (x : Int) := by
    unfold natsR
    rw [List.map_map]
    conv => lhs; rw [← List.map_id l]
    apply List.map_congr_left
    intro x hx
    have := h.1 x hx
    simp; omega
  refine ⟨?_, e⟩
  have hnd : (natsR l).Nodup := by
    have := natsR_nodup (l := l) (k := l.length) (by rw [List.take_length]; exact fun x hx => (h.1 x hx).1) (by rw [List.take_length]; exact h.2)
    rwa [List.take_of_length_le (by rw [natsR_len]; exact Nat.le_refl _)] at this
  have hsub : ∀ x ∈ natsR l, x ∈ List.range n := by
    intro x hx
    unfold natsR at hx
    obtain ⟨z, hz, rfl⟩ := List.mem_map.1 hx
    have := h.1 z hz
    rw [List.mem_range]; omega
  have hlen : (natsR l).length = (List.range n).length := by rw [natsR_len, List.length_range, hn]
  exact perm_of_sub _ _ hnd List.nodup_range hsub hlen
theorem rank_Order_big (A : Option Addr) (n c : Nat) (w : World) (hn : 8 < n) :
    Calls Try.prog 34 #[.slice A n c] w (Ret w (.tuple #[.int .i64 0, .int .i64 1])) := by
  go_enter Try.func34, Try.ntmps34
  go_wp2
  go_ret2
  exact ⟨rfl, rfl⟩
set_option maxRecDepth 100000 in
set_option maxHeartbeats 1600000 in
theorem RankOrders_walk (A : Option Addr) (n c : Nat) (l : List Int) (w : World) (h : Reads w w.heap.size A n (vi .i64 l)) (_ : ∀ z ∈ l, (Lit.int .i64 z).wf = true) (hm : n * 8 ≤ reachBytes) (hc : n ≤ c) :
    Calls Try.prog 10 #[.slice A n c] w (LawTrue w) := by
  have H := Lib.hid h.int_len
  have hmx : n ≤ maxLen := by unfold reachBytes at hm; unfold maxLen; omega
  clear hm
  by_cases h8 : 8 < n
  · have c1 := rank_Order_big A n c w h8
    go_enter Try.func10, Try.ntmps10
    go_wp2_with (go_at_call 34; refine c1.mono ?_; clear c1; rintro e w1 ⟨rfl, rfl⟩)
    go_ret
    exact .same _
  · have hn : n ≤ 8 := by omega
    cases hb : onceB l n with
    | false =>
      have c1 := rank_Order A n c l false _ w h hn hb rfl 0 3 rfl rfl
      have c2 := fun (t : Nat) => ref_Once A n c l false (w.drewN t) (h.drewN t) hn hc hb
      clear hb h
      go_enter Try.func10, Try.ntmps10
      go_wp2_with (first
        | (go_at_call 34; refine c1.mono ?_; clear c1; rintro e w1 ⟨rfl, t, rfl⟩)
        | (go_at_call 35; refine (c2 _).mono ?_; clear c2; rintro e w' ⟨rfl, rfl⟩))
      go_ret
      exact .drewN _ _
    | true =>
      obtain ⟨hperm, hle⟩ := once_perm hb H.out
      obtain ⟨R, hR⟩ : ∃ R, rkL (List.range n) (natsR l) = R := ⟨_, rfl⟩
      have hur := un_rk (natsR l) (List.range n) List.nodup_range hperm
      rw [hR, natsR_len, H.out] at hur
      obtain ⟨hRf, hun⟩ := hur
      have HUN : Hid (∀ r, r < fct n → (unL n (List.range n) r = natsR l ↔ r = R)) := fun r hr => by
        constructor
        · intro e
          rw [← rk_un n (List.range n) r List.length_range hr List.nodup_range, e, hR]
        · intro e; rw [e, hun]
      have HRF := Lib.hid hRf
      have c1 := rank_Order A n c l true R w h hn hb hR (R : Int) 0 rfl rfl
      have c2 := fun (t : Nat) => ref_Once A n c l true (w.drewN t) (h.drewN t) hn hc hb
      have c3 := fun (W : World) => ref_First n W hn
      have hl2 : vi .i64 l = vn .i64 (natsR l) := by rw [vn_viR, ← hle]
      have hrd := h
      rw [hl2] at hrd
      have hRb : R ≤ 40320 := by have := fct_le hn; omega
      clear hb hperm hle hR hRf hun hl2 h
      go_enter Try.func10, Try.ntmps10
      go_wp2_with (first
        | (go_at_call 34; refine c1.mono ?_; clear c1; rintro e w1 ⟨rfl, t, rfl⟩)
        | (go_at_call 35; refine (c2 _).mono ?_; clear c2; rintro e w' ⟨rfl, rfl⟩)
        | (go_at_call 36; refine (c3 _).mono ?_; clear c3; rintro e w2 ⟨A2, n2, k2, rfl, ho2, hb2⟩; obtain rfl : n2 = n := (by have := ho2.len; simpa using this.symm)))
      have hb02 : Below w.heap.size w w2 := (below_drewN (Below.refl _ w) t).trans hb2
      have ho2' : Own w2 w.heap.size 3 (.slice A2 n2 k2) (vn .i64 (unL n2 (List.range n2) 0)) := by
        rw [unL_zero n2 _ List.length_range]; exact ho2
      clear ho2 hb2
      go_loopw [5, 6] (fun mv nv wr => ∃ (r : Nat) (A' : Option Addr) (k' : Nat), r ≤ R ∧ mv = .slice A' n2 k' ∧ nv = .int .i64 r ∧ Own wr w.heap.size 3 (.slice A' n2 k') (vn .i64 (unL n2 (List.range n2) r)) ∧ Below w.heap.size w wr) (fun _ nv _ => R - (intOf nv).toNat)
      case atStart => exact ⟨0, A2, k2, by omega, rfl, rfl, ho2', hb02⟩
      case round =>
        clear ho2' hb02
        obtain ⟨r, A', k', hr, rfl, rfl, hown, hbel⟩ := hrel
        have hrf : r < fct n2 := Nat.lt_of_le_of_lt hr HRF.out
        have hq := HUN.out r hrf
        have ci := fun (b : Bool) (hb : Hid (decide ((unL n2 (List.range n2) r).map (fun x : Nat => (x : Int)) = (natsR l).map (fun x : Nat => (x : Int))) = b)) => ref_Ints A' A n2 n2 k' c _ _ b wr (by rw [← vn_viR]; exact hown.reads) (by rw [← vn_viR]; exact hrd.below hbel) hmx hb
        by_cases hrR : r = R
        · have ci := ci true (by unfold Hid; rw [hq.2 hrR]; simp)
          subst hrR
          clear hq
          go_wp2_with (go_at_call 32; refine ci.mono ?_; clear ci; rintro e w3 ⟨rfl, t3, rfl⟩)
          go_ret
          exact ⟨rfl, below_drewN hbel _⟩
        · have hne : unL n2 (List.range n2) r ≠ natsR l := fun e => hrR (hq.1 e)
          have ci := ci false (by
            unfold Hid
            rw [decide_eq_false_iff_not]
            intro e
            apply hne
            exact (List.map_inj_right (f := fun x : Nat => (x : Int)) (fun a b hab => by have h9 : (a : Int) = (b : Int) := hab; omega)).1 e)
          have hnx := un_next hrf
          rcases hnx with ⟨h1, _⟩ | ⟨h1, i, j, h2, h3⟩
          · exfalso; have := HRF.out; omega
          · have cn := fun (t : Nat) => ref_Next A' n2 k' i j (unL n2 (List.range n2) r) (wr.drewN t) (hown.drewN t).reads hn h2
            rw [h3] at cn
            clear hq hne h1 h2 h3
            go_wp2_with (first
              | (go_at_call 32; refine ci.mono ?_; clear ci; rintro e w3 ⟨rfl, t3, rfl⟩)
              | (go_at_call 37; refine (cn _).mono ?_; clear cn; rintro e w4 ⟨hb4, A4, k4, rfl, ho4⟩))
            have hb3 := below_drewN hbel t3
            go_roundw
            case rel => exact ⟨r + 1, A4, k4, by omega, rfl, by go_num, ho4.low hb3.size, hb3.trans (hb4.mono hb3.size)⟩
            case measure => simp [intOf]; omega
end Go.Proofs.Ytmepiiheidmbgaa

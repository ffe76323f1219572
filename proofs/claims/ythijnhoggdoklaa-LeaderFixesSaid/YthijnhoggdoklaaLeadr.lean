import Derived.Test.YthijnhoggdoklaaLead
set_option linter.unusedVariables false
namespace Go.Proofs.Ythijnhoggdoklaa
open Go.RowKit

theorem pop_le_nL {m x : Nat} (hm : m ≤ 32) (h : x < 2 ^ m) : pop x ≤ m := by
  unfold pop
  rw [show 32 = m + (32 - m) from by omega, popAux_add, Nat.div_eq_of_lt h, popAux_zero]
  have := popAux_le m x; omega
set_option maxRecDepth 100000 in
set_option maxHeartbeats 800000 in
theorem ref_Leader (nb : Nat) (A : Option Addr) (n c : Nat) (l : List Nat) (mk : Nat) (o : Option Nat) (w : World) {B : Nat} (h : Reads w B A n (vn .u32 l)) (hw : ∀ x ∈ l, x < 4294967296) (hn : n ≤ 8) (hm : nb ≤ 12) (ho : Hid (lead l n (2 ^ nb) mk = o)) :
    Calls Try.prog 25 #[.int .i64 (nb : Int), .slice A n c, .int .u32 (mk : Int)] w (Ret w (.tuple #[.int .u32 ((o.getD 0 : Nat) : Int), .bool o.isSome])) := by
  have hp12 := pow_le12 hm
  have hpop : Hid (∀ x, x < 2 ^ nb → pop x ≤ nb) := fun x hx => pop_le_nL (by omega) hx
  obtain ⟨p, hp⟩ : ∃ p, p = 2 ^ nb := ⟨_, rfl⟩
  have es := shl_int hm
  rw [← hp] at es hp12 ho hpop
  clear hp
  go_enter Try.func25, Try.ntmps25
  go_wp2
  go_loop [8, 9] (fun sv _ => ∃ s : Nat, s ≤ nb + 1 ∧ sv = .int .i64 s ∧ Hid (∀ x, x < p → pop x < s → markF l x n ≠ mk)) (fun sv _ => nb + 1 - (intOf sv).toNat)
  case atStart => exact ⟨0, by omega, rfl, fun x _ hx => absurd hx (by omega)⟩
  case round =>
    obtain ⟨s, hs, rfl, hall⟩ := hrel
    by_cases hls : s ≤ nb
    · go_wp2
      go_loop [9] (fun wv => ∃ j : Nat, j ≤ p ∧ wv = .int .u32 j ∧ Hid (∀ x, x < j → pop x = s → markF l x n ≠ mk)) (fun wv => p - (intOf wv).toNat)
      case atStart => exact ⟨0, by omega, rfl, fun x hx => absurd hx (by omega)⟩
      case round =>
        obtain ⟨j, hj, rfl, hrow⟩ := hrel
        by_cases hlt : j < p
        · have c1 := ref_Size j w (by omega)
          have c2 := ref_Mark A n c l j w h hn hw (by omega)
          have hpj := pop_le j
          by_cases h1 : pop j = s
          · by_cases h2 : markF l j n = mk
            · have HL : Hid (lead l n p mk = some j) := led_some (led_mk hlt h2 fun x hx hxm => by
                rcases Nat.lt_or_ge (pop x) s with h3 | h3
                · exact absurd hxm (hall.out x hx h3)
                · rcases Nat.lt_or_ge s (pop x) with h4 | h4
                  · exact .inl (by rw [h1]; exact h4)
                  · have h5 : pop x = s := Nat.le_antisymm h4 h3
                    refine .inr ⟨by rw [h1, h5], ?_⟩
                    rcases Nat.lt_or_ge x j with h6 | h6
                    · exact absurd hxm (hrow.out x h6 h5)
                    · exact h6)
              have HO : Hid (o = some j) := by unfold Hid; rw [← ho.out, HL.out]
              rw [h1] at c1
              rw [h2] at c2
              clear h1 h2 hpj
              go_wp2_with (first | (go_at_call 49; refine c1.mono ?_; rintro e w' ⟨rfl, rfl⟩) | (go_at_call 19; refine c2.mono ?_; rintro e w' ⟨rfl, rfl⟩))
              go_ret2
              exact ⟨by rw [HO.out]; rfl, rfl⟩
            · have HA : Hid (∀ x, x < j + 1 → pop x = s → markF l x n ≠ mk) := fun x hx hxs => by
                rcases Nat.lt_or_ge x j with h6 | h6
                · exact hrow.out x h6 hxs
                · obtain rfl : x = j := by omega
                  exact h2
              have t2 : (((markF l j n : Nat) : Int) == (mk : Int)) = false := by simp; omega
              rw [h1] at c1
              clear h1 h2 hpj
              generalize markF l j n = M at *
              go_wp2_with (first | (go_at_call 49; refine c1.mono ?_; rintro e w' ⟨rfl, rfl⟩) | (go_at_call 19; refine c2.mono ?_; rintro e w' ⟨rfl, rfl⟩))
              go_round
              case rel => exact ⟨j + 1, by omega, by go_num, HA⟩
              case measure => simp only [intOf]; omega
          · have HA : Hid (∀ x, x < j + 1 → pop x = s → markF l x n ≠ mk) := fun x hx hxs => by
              rcases Nat.lt_or_ge x j with h6 | h6
              · exact hrow.out x h6 hxs
              · obtain rfl : x = j := by omega
                exact absurd hxs h1
            have t1 : (((pop j : Nat) : Int) == (s : Int)) = false := by simp; omega
            clear h1 c2
            generalize pop j = pj at *
            go_wp2_with (go_at_call 49; refine c1.mono ?_; rintro e w' ⟨rfl, rfl⟩)
            go_round
            case rel => exact ⟨j + 1, by omega, by go_num, HA⟩
            case measure => simp only [intOf]; omega
        · obtain rfl : j = p := by omega
          have HA : Hid (∀ x, x < j → pop x < s + 1 → markF l x n ≠ mk) := fun x hx hxs => by
            rcases Nat.lt_or_ge (pop x) s with h3 | h3
            · exact hall.out x hx h3
            · exact hrow.out x hx (Nat.le_antisymm (by omega) h3)
          go_wp2
          go_round
          case rel => exact ⟨s + 1, by omega, by go_num, HA⟩
          case measure => simp only [intOf]; omega
    · obtain rfl : s = nb + 1 := by omega
      have HO : Hid (o = none) := by
        unfold Hid
        rw [← ho.out]
        exact led_none (led_nil fun x hx => hall.out x hx (Nat.lt_succ_of_le (hpop.out x hx)))
      have i1 : ¬ ((nb + 1 : Nat) : Int) ≤ (nb : Int) := by omega
      go_wp2
      go_ret2
      exact ⟨by rw [HO.out]; rfl, rfl⟩
end Go.Proofs.Ythijnhoggdoklaa

/-
  rank.Order, against the reference's way from list to list.
-/
import Derived.Test.YtmepiiheidmbgaaRankn
import Derived.Test.YtmepiiheidmbgaaBits
set_option linter.unusedVariables false
namespace Go.Proofs.Ytmepiiheidmbgaa
open Go.RowKit

set_option maxHeartbeats 800000 in
theorem ref_Next_none (A : Option Addr) (n c : Nat) (l : List Nat) (w : World) (h : Reads w w.heap.size A n (vn .i64 l)) (hn : n ≤ 8) (hx : Hid (l.Pairwise (· > ·))) :
    Calls Try.prog 37 #[.slice A n c] w (fun e w' => Below w.heap.size w w' ∧ e = .returned (.tuple #[.slice none 0 0, .bool false])) := by
  have H := Lib.hid h.nat_len
  have hoE : Own (w.alloc (.cells #[] 3)) w.heap.size 3 (.slice (some ⟨w.heap.size, 0, none⟩) 0 0) [] := Own.built w #[] 0 rfl (by unfold maxLen; omega) (Nat.le_refl _)
  have hrE : Reads (w.alloc (.cells #[] 3)) w.heap.size A n (vn .i64 l) := h.alloc (Nat.le_refl _) _
  have hbE : Below w.heap.size w (w.alloc (.cells #[] 3)) := (Below.refl _ _).alloc (Nat.le_refl _) _
  go_enter Try.func37, Try.ntmps37
  go_wp2_with (at_builtin; refine appN el_intN rfl _ _ rfl rfl hoE rfl hrE (vn_oneN _ _) (by simp; unfold maxLen; omega) (by simp; omega) hbE.size ?_; clear hoE; intro v1 w1 ho1 hb1 _ _; rw [List.nil_append] at ho1; have hbel := hbE.trans hb1; obtain ⟨A1, c1, e1⟩ := ho1.form; rw [List.length_map, H.out] at e1; subst e1)
  have hc1 := Lib.hid (show ∀ k, k < n → ∃ g, A1 = some ⟨g, 0, none⟩ ∧ w1.cell? ⟨g, k, none⟩ = some (.int .i64 ((l.getD k 0 : Nat) : Int)) from fun k hk => by
    obtain ⟨ad1, rfl, _⟩ := ho1.reads.cells (by omega)
    obtain ⟨g, rfl, _, _⟩ := ho1.addr
    have := ho1.cell (j := k) (u := .int .i64 ((l.getD k 0 : Nat) : Int)) (by rw [List.getElem?_map, getD_at (by rw [H.out]; exact hk)]; rfl)
    rw [add_row] at this
    exact ⟨g, rfl, this⟩)
  clear ho1
  go_loopw [5] (fun v wr => ∃ p t : Nat, p ≤ n ∧ v = .int .i64 ((p : Int) - 2) ∧ wr = w1.drewN t) (fun v _ => (intOf v + 1).toNat)
  case atStart => exact ⟨n, 0, by omega, by go_num, rfl⟩
  case round =>
    obtain ⟨p0, t, hp, rfl, rfl⟩ := hrel
    by_cases hp2 : 2 ≤ p0
    · obtain ⟨p, rfl⟩ : ∃ p, p0 = p + 2 := ⟨p0 - 2, by omega⟩
      have e0 : ((p + 2 : Nat) : Int) - 2 = (p : Int) := by omega
      rw [e0]
      obtain ⟨g, rfl, hcp⟩ := hc1.out p (by omega)
      obtain ⟨g', e', hcq⟩ := hc1.out (p + 1) (by omega)
      injection e' with e'
      injection e' with e'
      subst e'
      have hdn := desc_at (s := 0) (by rw [List.drop_zero]; exact hx.out) (Nat.zero_le p) (by rw [H.out]; omega)
      obtain ⟨xq, hxq⟩ : ∃ x, l.getD (p + 1) 0 = x := ⟨_, rfl⟩
      obtain ⟨xp, hxp⟩ : ∃ x, l.getD p 0 = x := ⟨_, rfl⟩
      rw [hxq, hxp] at hdn
      rw [hxq] at hcq
      rw [hxp] at hcp
      have t1 : (xq : Int) < (xp : Int) := by omega
      have t2 : decide ((xq : Int) < (xp : Int)) = true := by simp; omega
      have p0 : (0 : Int) ≤ (p : Int) := by omega
      have p1 : (p : Int) < (n : Int) := by omega
      have p2 : (p : Int) + 1 < (n : Int) := by omega
      have p3 : (0 : Int) ≤ (p : Int) + 1 := by omega
      have p4 : ((p : Int) + 1).toNat = p + 1 := by omega
      have p5 : IntKind.i64.wrap ((p : Int) + 1) = (p : Int) + 1 := IntWalk.i64_in _ (by omega)
      have d0 : decide (0 ≤ (p : Int)) = true := by simp
      clear hdn hxq hxp e0
      go_wp2
      go_quiet (fail)
      go_wp2
      go_roundw
      case rel => exact ⟨p + 1, t + nq, by omega, by go_num, by first | rfl | rw [World.drewN_drewN]⟩
      case measure => simp [intOf]
    · obtain ⟨v, hv⟩ : ∃ v : Int, (p0 : Int) - 2 = v := ⟨_, rfl⟩
      rw [hv]
      have v1 : v < 0 := by omega
      have v2 : ¬ 0 ≤ v := by omega
      have d0 : decide (0 ≤ v) = false := by simp; omega
      clear hv
      go_wp2
      go_quiet (fail)
      go_wp2
      go_ret2
      exact ⟨below_drewN hbel (t + nq), rfl⟩
theorem fct_le {n : Nat} (h : n ≤ 8) : fct n ≤ 40320 := by
  have : ∀ k : Fin 9, fct k.val ≤ 40320 := by decide +kernel
  exact this ⟨n, by omega⟩
set_option maxHeartbeats 400000 in
theorem rank_lists (n : Nat) (w : World) (hn : n ≤ 8) : Calls Try.prog 65 #[.int .i64 (n : Int)] w (Ret w (.int .i64 (fct n : Int))) := by
  go_enter Try.func65, Try.ntmps65
  go_wp2
  go_loop [3, 6] (fun x i => ∃ k f : Nat, k ≤ n ∧ i = .int .i64 k ∧ x = .int .i64 (f : Int) ∧ Hid (f = fct k)) (fun _ i => n - (intOf i).toNat)
  case atStart => exact ⟨0, 1, by omega, rfl, rfl, rfl⟩
  case round =>
    obtain ⟨k, f, hk, rfl, rfl, hf⟩ := hrel
    by_cases hlt : k < n
    · obtain ⟨g, hg⟩ : ∃ g, (k + 1) * f = g := ⟨_, rfl⟩
      have HF : Hid (g = fct (k + 1)) := by unfold Hid; rw [fct, ← hf.out, hg]
      have hgb : g ≤ 40320 := by rw [HF.out]; exact fct_le (by omega)
      have hgi : (f : Int) * ((k : Int) + 1) = (g : Int) := by rw [← hg, Int.natCast_mul, Int.mul_comm]; simp
      clear hg
      go_wp2
      go_round
      case rel => exact ⟨k + 1, g, by omega, by go_num, by go_num, HF⟩
      case measure => simp [intOf]; omega
    · obtain rfl : k = n := by omega
      go_wp2
      go_ret
      exact ⟨ret_i (by rw [hf.out]), rfl⟩
set_option maxHeartbeats 400000 in
theorem ref_First (n : Nat) (w : World) (hn : n ≤ 8) : Calls Try.prog 36 #[.int .i64 (n : Int)] w (RetS w 3 (vn .i64 (List.range n))) := by
  go_enter Try.func36, Try.ntmps36
  go_wp2
  go_loopw [3, 4] (fun v i wr => ∃ k : Nat, k ≤ n ∧ i = .int .i64 k ∧ Own wr w.heap.size 3 v (vn .i64 (List.range k)) ∧ Below w.heap.size w wr) (fun _ i _ => n - (intOf i).toNat)
  case atStart => exact ⟨0, by omega, rfl, Own.nil _ _ _, Below.refl _ _⟩
  case round =>
    obtain ⟨k, hk, rfl, hown, hbel⟩ := hrel
    have hvl : Hid ((vn .i64 (List.range k)).length = k) := by unfold Hid; simp
    by_cases hlt : k < n
    · have HN : Hid (vn .i64 (List.range k) ++ [Value.int .i64 (k : Int)] = vn .i64 (List.range (k + 1))) := by unfold Hid; rw [List.range_succ]; simp [vn]
      go_wp2_with (at_builtin; refine app1 el_intN rfl _ _ rfl rfl hown _ _ rfl rfl (by rw [hvl.out]; unfold maxLen; omega) (by rw [hvl.out]; omega) hbel.size ?_; intro v2 w2 ho2 hb2 _ _)
      rw [HN.out] at ho2
      go_roundw
      case rel => exact ⟨k + 1, by omega, by go_num, ho2, hbel.trans hb2⟩
      case measure => simp [intOf]; omega
    · obtain rfl : k = n := by omega
      obtain ⟨A2, c2, e⟩ := hown.form
      rw [hvl.out] at e
      subst e
      go_wp2
      go_ret
      exact ⟨A2, k, c2, rfl, hown, hbel⟩
/-! ### each number once -/
def onceB (l : List Int) (n : Nat) : Bool := decide (∀ x ∈ l, 0 ≤ x ∧ x < (n : Int)) && decide l.Nodup
theorem once_bad {l : List Int} {n k : Nat} {x : Int} (hx : l[k]? = some x) (h : x < 0 ∨ (n : Int) ≤ x) : onceB l n = false := by
  unfold onceB
  rw [decide_eq_false (by intro h2; have := h2 x (mem_at hx); omega)]; rfl
theorem once_dup {l : List Int} {n k j : Nat} {x : Int} (hx : l[k]? = some x) (hy : l[j]? = some x) (hj : j < k) : onceB l n = false := by
  unfold onceB
  rw [decide_eq_false (p := l.Nodup), Bool.and_false]
  intro h
  obtain ⟨h1, e1⟩ := List.getElem?_eq_some_iff.1 hx
  obtain ⟨h2, e2⟩ := List.getElem?_eq_some_iff.1 hy
  have := (List.getElem_inj h).1 (e1.trans e2.symm)
  omega
structure OnceK (l : List Int) (n k : Nat) : Prop where
  rng : ∀ x ∈ l.take k, 0 ≤ x ∧ x < (n : Int)
  nd : (l.take k).Nodup
theorem OnceK.start (l : List Int) (n : Nat) : OnceK l n 0 := ⟨by simp, by simp⟩
theorem OnceK.next {l : List Int} {n k : Nat} {x : Int} (h : OnceK l n k) (hx : l[k]? = some x) (h0 : 0 ≤ x) (h1 : x < (n : Int)) (h2 : x ∉ l.take k) : OnceK l n (k + 1) := by
  refine ⟨fun y hy => ?_, ?_⟩
  · rw [take_next hx] at hy
    rcases List.mem_append.1 hy with h3 | h3
    · exact h.rng y h3
    · rw [List.mem_singleton.1 h3]; exact ⟨h0, h1⟩
  · rw [take_next hx, List.nodup_append]
    refine ⟨h.nd, by simp, fun a ha b hb => ?_⟩
    rw [List.mem_singleton.1 hb]
    intro e; subst e; exact h2 ha
theorem OnceK.full {l : List Int} {n : Nat} (h : OnceK l n l.length) : onceB l n = true := by
  obtain ⟨h1, h2⟩ := h
  rw [List.take_length] at h1 h2
  unfold onceB
  rw [decide_eq_true h1, decide_eq_true h2]; rfl
set_option maxHeartbeats 800000 in
theorem ref_Once (A : Option Addr) (n c : Nat) (l : List Int) (b : Bool) (w : World) (h : Reads w w.heap.size A n (vi .i64 l)) (hn : n ≤ 8) (hc : n ≤ c) (hb : Hid (onceB l n = b)) :
    Calls Try.prog 35 #[.slice A n c] w (Ret w (.bool b)) := by
  have H := Lib.hid h.int_len
  go_enter Try.func35, Try.ntmps35
  go_wp2
  go_loop [9] (fun i => ∃ k : Nat, k ≤ n ∧ i = .int .i64 k ∧ Hid (OnceK l n k)) (fun i => n - (intOf i).toNat)
  case atStart => exact ⟨0, by omega, rfl, OnceK.start l n⟩
  case round =>
    obtain ⟨k, hk, rfl, hst⟩ := hrel
    by_cases hlt : k < n
    · obtain ⟨ad, x, rfl, hab, hx, hc0⟩ := h.int_at hlt
      have HX := Lib.hid hx
      clear hx
      by_cases h0 : x < 0
      · have HB : Hid (b = false) := by unfold Hid; rw [← hb.out]; exact once_bad HX.out (.inl h0)
        go_wp2
        go_ret
        exact ⟨ret_b HB.out.symm, rfl⟩
      · by_cases h1 : (n : Int) ≤ x
        · have HB : Hid (b = false) := by unfold Hid; rw [← hb.out]; exact once_bad HX.out (.inr h1)
          go_wp2
          go_ret
          exact ⟨ret_b HB.out.symm, rfl⟩
        · have h0' : 0 ≤ x := by omega
          have h1' : x < (n : Int) := by omega
          have c1 : k ≤ c := by omega
          have c2 : (k : Int) ≤ (c : Int) := by omega
          have c3 : (0 : Int) ≤ (k : Int) := by omega
          go_wp2
          go_loop [26] (fun j => ∃ q : Nat, q ≤ k ∧ j = .int .i64 q ∧ Hid (x ∉ l.take q)) (fun j => k - (intOf j).toNat)
          case atStart => exact ⟨0, by omega, rfl, by unfold Hid; simp⟩
          case round =>
            obtain ⟨q, hq, rfl, hno⟩ := hrel
            by_cases hqk : q < k
            · obtain ⟨ad', y, e', _, hy, hcy⟩ := h.int_at (show q < n by omega)
              injection e' with e'
              subst e'
              have HY := Lib.hid hy
              clear hy
              by_cases hxy : x = y
              · have HB : Hid (b = false) := by unfold Hid; rw [← hb.out]; exact once_dup HX.out (by rw [hxy]; exact HY.out) hqk
                subst hxy
                go_wp2
                go_ret
                exact ⟨ret_b HB.out.symm, rfl⟩
              · have HN : Hid (x ∉ l.take (q + 1)) := by unfold Hid; rw [take_next HY.out]; simp [hno.out, hxy]
                have hxb : (x == y) = false := by simpa using hxy
                go_wp2
                go_round
                case rel => exact ⟨q + 1, by omega, by go_num, HN⟩
                case measure => simp [intOf]; omega
            · obtain rfl : q = k := by omega
              have HN : Hid (OnceK l n (q + 1)) := hst.out.next HX.out h0' h1' hno.out
              go_wp2
              go_round
              case rel => exact ⟨q + 1, by omega, by go_num, HN⟩
              case measure => simp [intOf]; omega
    · obtain rfl : k = n := by omega
      have HB : Hid (b = true) := by unfold Hid; rw [← hb.out]; exact OnceK.full (by rw [H.out]; exact hst.out)
      go_wp2
      go_ret
      exact ⟨ret_b HB.out.symm, rfl⟩
end Go.Proofs.Ytmepiiheidmbgaa

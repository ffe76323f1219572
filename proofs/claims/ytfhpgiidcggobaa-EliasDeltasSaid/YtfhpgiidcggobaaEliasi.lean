import Derived.Test.YtfhpgiidcggobaaEliasg
import Derived.Test.YtfhpgiidcggobaaEliasd
import Derived.Test.YtfhpgiidcggobaaBools
set_option linter.unusedVariables false
namespace Go.Proofs.Ytfhpgiidcggobaa
open Go.RowKit

theorem bitLen_pos {n : Nat} (h : 1 ≤ n) (h2 : n ≤ 1048576) : 1 ≤ Lib.bitLen n := by rw [Lib.bitLen_half n (by omega) (by omega)]; omega
theorem bitLen_21 {n : Nat} (h2 : n ≤ 1048576) : Lib.bitLen n ≤ 21 := Lib.bitLen_le n 21 (by omega) (by omega)
set_option maxHeartbeats 800000 in
theorem ref_bin (n k : Nat) (w : World) (hn : n ≤ 1048576) (hk : Hid (Lib.bitLen n = k)) :
    Calls Try.prog 52 #[.int .i64 (n : Int)] w (RetS w 4 (vb (digitsL n k))) := by
  have hk21 : k ≤ 21 := by rw [← hk.out]; exact bitLen_21 hn
  have cd := ref_Digits n k w (by omega) (by omega)
  go_enter Try.func52, Try.ntmps52
  go_wp2
  go_loop [3, 4] (fun c x => ∃ a y : Nat, y ≤ n ∧ c = .int .i64 a ∧ x = .int .i64 y ∧ Hid (a + Lib.bitLen y = k)) (fun _ x => (intOf x).toNat)
  case atStart => exact ⟨0, n, by omega, rfl, rfl, by unfold Hid; rw [hk.out]; omega⟩
  case round =>
    obtain ⟨a, y, hy, rfl, rfl, hs⟩ := hrel
    have ha : a ≤ 21 := by have := hs.out; omega
    by_cases h0 : y = 0
    · subst h0
      have hE : a = k := by have := hs.out; have h1 : Lib.bitLen 0 = 0 := rfl; omega
      subst hE
      clear hs
      go_wp2_with (go_at_call 47; refine cd.mono ?_; rintro e w1 ⟨A1, n1, k1, rfl, ho1, hb1⟩)
      go_ret
      exact ⟨A1, n1, k1, rfl, ho1, hb1⟩
    · have hpos : (0 : Int) < (y : Int) := by omega
      have HS : Hid (a + 1 + Lib.bitLen (y / 2) = k) := by unfold Hid; rw [← hs.out, Lib.bitLen_half y h0 (by omega)]; omega
      clear hs
      go_wp2
      go_round
      case rel => exact ⟨a + 1, y / 2, by omega, by go_num, by go_num, HS⟩
      case measure => simp only [intOf]; omega
set_option maxHeartbeats 800000 in
theorem ref_Gamma (n k : Nat) (w : World) (hn : n ≤ 1048576) (hk : Hid (Lib.bitLen n = k)) (h1 : 1 ≤ k) (h2 : k ≤ 21) :
    Calls Try.prog 28 #[.int .i64 (n : Int)] w (RetS w 4 (vb (gaL n k))) := by
  have cb := ref_bin n k w hn hk
  have HV := Lib.hid (gaL_vb n k)
  have HL := Lib.hid (digitsL_len n k)
  obtain ⟨m, hm⟩ : ∃ m, m + 1 = k := ⟨k - 1, by omega⟩
  have em : (k : Int) - 1 = (m : Int) := by omega
  have emn : k - 1 = m := by omega
  rw [emn] at HV
  have hm20 : m ≤ 20 := by omega
  have hlr : Hid ((List.replicate m (Value.bool false)).length = m) := List.length_replicate
  clear emn hm
  go_enter Try.func28, Try.ntmps28
  go_wp2_with (first
    | (go_at_call 52; refine cb.mono ?_; clear cb; rintro e w1 ⟨A1, n1, c1, rfl, ho1, hb1⟩; obtain rfl : k = n1 := (by have h1 := ho1.len; rw [List.length_map, HL.out] at h1; exact h1))
    | (at_make; refine mkN el_clone_bools rfl _ _ rfl w.heap.size m rfl rfl rfl rfl (by omega) (by unfold maxLen; omega) hb1.size ?_; intro w2 ho2 hb2 hs2; have hr1 := ho1.reads.below hb2; have hbw := hb1.trans (hb2.mono hb1.size))
    | (at_builtin; refine appN el_clone_bools rfl _ _ rfl rfl ho2 rfl hr1 (one_vbG _) (by rw [hlr.out]; unfold maxLen; omega) (by rw [hlr.out]; omega) hbw.size ?_; intro v3 w3 ho3 hb3 _ _))
  rw [HV.out] at ho3
  obtain ⟨A3, k3, e3⟩ := ho3.form
  generalize (vb (gaL n k)).length = n3 at e3
  subst e3
  go_ret
  exact ⟨A3, n3, k3, rfl, ho3, hbw.trans hb3⟩
theorem gaL_len (n k : Nat) : (gaL n k).length = (k - 1) + k := by unfold gaL; rw [List.length_append, List.length_replicate, digitsL_len]
set_option maxHeartbeats 400000 in
theorem EliasGammas_walk (n : Int) (w : World) (_ : (Lit.int .i64 n).wf = true) :
    Calls Try.prog 7 #[.int .i64 n] w (LawTrue w) := by
  by_cases h1 : n < 1
  · have c1 : Calls Try.prog 27 #[.int .i64 n] w (Ret w (.tuple #[.slice none 0 0, .int .i64 4])) := by
      go_enter Try.func27, Try.ntmps27
      go_wp2
      go_ret2
      exact ⟨rfl, rfl⟩
    go_enter Try.func7, Try.ntmps7
    go_wp2_with (go_at_call 27; refine c1.mono ?_; rintro e w1 ⟨rfl, rfl⟩)
    go_ret
    exact .same _
  by_cases h2 : 1048576 < n
  · have c1 : Calls Try.prog 27 #[.int .i64 n] w (Ret w (.tuple #[.slice none 0 0, .int .i64 4])) := by
      go_enter Try.func27, Try.ntmps27
      go_wp2
      go_ret2
      exact ⟨rfl, rfl⟩
    go_enter Try.func7, Try.ntmps7
    go_wp2_with (go_at_call 27; refine c1.mono ?_; rintro e w1 ⟨rfl, rfl⟩)
    go_ret
    exact .same _
  obtain ⟨m, rfl⟩ : ∃ m : Nat, n = m := ⟨n.toNat, by omega⟩
  have hm : m ≤ 1048576 := by omega
  obtain ⟨k, hk⟩ : ∃ k, Lib.bitLen m = k := ⟨_, rfl⟩
  have hk1 : 1 ≤ k := by rw [← hk]; exact bitLen_pos (by omega) hm
  have hk2 : k ≤ 21 := by rw [← hk]; exact bitLen_21 hm
  have cg := elias_gamma m k w hm hk hk1 hk2
  have c1 : Calls Try.prog 27 #[.int .i64 (m : Int)] w (fun e w' => ∃ A' n' c', e = .returned (.tuple #[.slice A' n' c', .int .i64 0]) ∧ Own w' w.heap.size 4 (.slice A' n' c') (vb (gaL m k)) ∧ Below w.heap.size w w') := by
    clear hk
    go_enter Try.func27, Try.ntmps27
    go_wp2_with (go_at_call 51; refine cg.mono ?_; rintro e w1 ⟨A1, n1, k1, rfl, ho1, hb1⟩)
    go_ret2
    exact ⟨A1, n1, k1, rfl, ho1, hb1⟩
  have c2 := fun w => ref_Gamma m k w hm hk hk1 hk2
  have hl := Lib.hid (gaL_len m k)
  have c3 := fun (A1 A2 : Option Addr) (n1 n2 k1 k2 : Nat) (w2 : World) (g1 : Reads w2 w2.heap.size A1 n1 (vb (gaL m k))) (g2 : Reads w2 w2.heap.size A2 n2 (vb (gaL m k))) => ref_Bools A1 A2 n1 n2 k1 k2 _ _ true w2 g1 g2 (by have := g1.bool_len; have := hl.out; unfold maxLen; omega) (by simp [Hid])
  clear cg hk
  generalize gaL m k = xs at *
  go_enter Try.func7, Try.ntmps7
  go_wp2_with (first | (go_at_call 27; refine c1.mono ?_; rintro e w1 ⟨A1, n1, k1, rfl, ho1, hb1⟩) | (go_at_call 28; refine (c2 _).mono ?_; rintro e w2 ⟨A2, n2, k2, rfl, ho2, hb2⟩; have c3 := c3 A1 A2 n1 n2 k1 k2 w2 ((ho1.reads.below hb2).more hb2.size) ho2.reads) | (go_at_call 17; refine c3.mono ?_; rintro e w3 ⟨rfl, m, rfl⟩))
  go_ret
  exact ⟨rfl, below_drewN (hb1.trans (hb2.mono hb1.size)) _⟩
end Go.Proofs.Ytfhpgiidcggobaa

/-
  The law of muller.Get.
-/
import Derived.Test.YtdidahafbcddeaaMulli
set_option linter.unusedVariables false
namespace Go.Proofs.Ytdidahafbcddeaa
open Go.RowKit

theorem mul_Get_bad (r m : Int) (A : Option Addr) (n c : Nat) (w : World) (h : okM r m = false) : Calls Try.prog 8 #[.int .i64 r, .int .i64 m, .slice A n c] w (Ret w (.tuple #[.slice none 0 0, .int .i64 4])) := by
  have c := mul_wrong r m w
  rw [h] at c
  go_enter Try.func8, Try.ntmps8
  go_wp2_with (go_at_call 23; refine c.mono ?_; clear c; rintro e w' ⟨rfl, rfl⟩)
  go_ret2
  exact ⟨rfl, rfl⟩
theorem mul_Get_len (r m M : Nat) (A : Option Addr) (n c : Nat) (w : World) (hm : m ≤ 4) (hr : r ≤ m) (hM : Hid (2 ^ m = M)) (hne : n ≠ M) (hn : n ≤ maxLen) : Calls Try.prog 8 #[.int .i64 (r : Int), .int .i64 (m : Int), .slice A n c] w (Ret w (.tuple #[.slice none 0 0, .int .i64 3])) := by
  have c := mul_wrong r m w
  have h : okM r m = true := by simp [okM]; omega
  rw [h] at c
  have ew : wrap64 ((2 : Int) ^ m) = (M : Int) := by rw [wrap_pow m (by omega), hM.out]
  have hne3 : ((n : Int) != (M : Int)) = true := by simp; omega
  clear h hne
  go_enter Try.func8, Try.ntmps8
  go_wp2_with (go_at_call 23; refine c.mono ?_; clear c; rintro e w' ⟨rfl, rfl⟩)
  go_ret2
  exact ⟨rfl, rfl⟩
set_option maxHeartbeats 800000 in
theorem MullerGets_walk (r m : Int) (A : Option Addr) (n c : Nat) (l : List Bool) (w : World) (_ : (Lit.int .i64 r).wf = true) (_ : (Lit.int .i64 m).wf = true) (h : Reads w w.heap.size A n (vb l)) (hs : n * 1 ≤ reachBytes) :
    Calls Try.prog 3 #[.int .i64 r, .int .i64 m, .slice A n c] w (LawTrue w) := by
  have hmx : n ≤ maxLen := by unfold reachBytes at hs; unfold maxLen; omega
  cases hok : okM r m with
  | false =>
    have c1 := mul_Get_bad r m A n c w hok
    have c2 := law_check r m w
    rw [hok] at c2
    clear hok h
    go_enter Try.func3, Try.ntmps3
    go_wp2_with (first
      | (go_at_call 8; refine c1.mono ?_; clear c1; rintro e w' ⟨rfl, rfl⟩)
      | (go_at_call 9; refine c2.mono ?_; clear c2; rintro e w' ⟨rfl, rfl⟩))
    go_ret
    exact .same _
  | true =>
    obtain ⟨a, b, rfl, rfl, hb4, hab⟩ := okM_nat hok
    have c2 := fun W => law_check a b W
    rw [hok] at c2
    obtain ⟨M, hM⟩ : ∃ M, 2 ^ b = M := ⟨_, rfl⟩
    have ew : wrap64 ((2 : Int) ^ b) = (M : Int) := by rw [wrap_pow b (by omega), hM]
    have hM16 : M ≤ 16 := by rw [← hM]; exact Nat.pow_le_pow_right (n := 2) (by omega) hb4
    by_cases hne : n = M
    · subst hne
      obtain ⟨N, hN⟩ : ∃ N, (prodU a (2 ^ b)).length = N := ⟨_, rfl⟩
      have c1 := mul_Get a b n N A c l (prodU a (2 ^ b)) w h hb4 hab rfl hM hN
      have c4 := fun (W : World) (hb : Below w.heap.size w W) => ref_MullerGet a b n N A c l (prodU a (2 ^ b)) W ((h.below hb).more hb.size) hb4 hab rfl hM hN
      have hN80 : N ≤ 80 := by rw [← hN]; exact prodU_len a b hb4 hab
      have hql := (stS_len (ps := prodU a (2 ^ b)) (r := a) (M := n) h.bool_len (a + 1)).2
      rw [hN] at hql
      have HQL := Lib.hid hql
      obtain ⟨q, hq⟩ : ∃ q, (stS (prodU a (2 ^ b)) a n l (a + 1)).2 = q := ⟨_, rfl⟩
      rw [hq] at c1 c4 HQL
      have tM : ((n : Int) != (n : Int)) = false := by simp
      clear hok h hM hN hql hq
      go_enter Try.func3, Try.ntmps3
      go_wp2_with (first
        | (go_at_call 8; refine c1.mono ?_; clear c1; rintro e w1 ⟨A1, n1, k1, rfl, ho1, hb1⟩; have c4 := c4 w1 hb1)
        | (go_at_call 9; refine (c2 _).mono ?_; clear c2; rintro e w' ⟨rfl, rfl⟩)
        | (go_at_call 11; refine c4.mono ?_; clear c4; rintro e w3 ⟨A3, n3, k3, rfl, ho3, hb3⟩; have c5 := ref_Bools A1 A3 n1 n3 k1 k3 q q true w3 ((ho1.below hb3 (Nat.le_refl _)).reads) ho3.reads (by rw [← ho1.reads.bool_len, HQL.out]; unfold maxLen; omega) (by unfold Hid; simp))
        | (go_at_call 10; refine c5.mono ?_; clear c5; rintro e w4 ⟨rfl, t, rfl⟩))
      go_ret
      exact ⟨rfl, below_drewN (hb1.trans (hb3.mono hb1.size)) _⟩
    · have c1 := mul_Get_len a b M A n c w hb4 hab hM hne hmx
      have hne3 : ((n : Int) != (M : Int)) = true := by simp; omega
      clear hok h hM hne
      go_enter Try.func3, Try.ntmps3
      go_wp2_with (first
        | (go_at_call 8; refine c1.mono ?_; clear c1; rintro e w1 ⟨rfl, rfl⟩)
        | (go_at_call 9; refine (c2 _).mono ?_; clear c2; rintro e w' ⟨rfl, rfl⟩))
      go_ret
      exact .same _
end Go.Proofs.Ytdidahafbcddeaa

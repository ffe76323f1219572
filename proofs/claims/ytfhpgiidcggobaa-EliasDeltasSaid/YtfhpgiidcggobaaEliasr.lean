import Derived.Test.YtfhpgiidcggobaaElias
set_option linter.unusedVariables false
namespace Go.Proofs.Ytfhpgiidcggobaa
open Go.RowKit

theorem rdR_zero {l : List Bool} {n most a : Nat} (h : rdR l n most = (a, 0)) : a = 0 := by
  unfold rdR at h
  split at h
  · simp at h
  · simp at h; omega
theorem rdR_ref {l : List Bool} {n : Nat} (hn : l.length = n) : rdR l n 1048576 = if 2 * zN l + 1 ≤ n ∧ zN l ≤ 20 ∧ gamN l ≤ 1048576 then (gamN l, 2 * zN l + 1) else (0, 0) := by
  unfold rdR
  by_cases h1 : 2 * zN l + 1 ≤ n
  · by_cases h2 : zN l ≤ 20
    · by_cases h3 : gamN l ≤ 1048576
      · rw [if_pos ⟨h1, by omega, h3⟩, if_pos ⟨h1, h2, h3⟩]
      · rw [if_neg (by omega), if_neg (by omega)]
    · have hg := gamN_ge (l := l) (by omega)
      have : 2 ^ 21 ≤ 2 ^ zN l := Nat.pow_le_pow_right (by omega) (by omega)
      rw [if_neg (by omega), if_neg (by omega)]
  · rw [if_neg (by omega), if_neg (by omega)]
set_option maxHeartbeats 400000 in
theorem elias_ReadGamma (A : Option Addr) (n c : Nat) (l : List Bool) (a b : Nat) (w : World) {B : Nat} (h : Reads w B A n (vb l)) (hn : n ≤ 140737488355328) (hcap : n ≤ c) (hr : Hid (rdR l n 1048576 = (a, b))) :
    Calls Try.prog 19 #[.slice A n c] w (Ret w (.tuple #[.int .i64 (a : Int), .int .i64 (b : Int), .int .i64 (if b = 0 then 5 else 0)])) := by
  have c1 : Calls Try.prog 43 #[.slice A n c, .int .i64 1048576] w (Ret w (.tuple #[.int .i64 (a : Int), .int .i64 (b : Int)])) := elias_read A n c l 1048576 a b w h hn hcap hr
  by_cases hb : b = 0
  · subst hb
    obtain rfl := rdR_zero hr.out
    clear hr
    go_enter Try.func19, Try.ntmps19
    go_wp2_with (go_at_call 43; refine c1.mono ?_; rintro e w' ⟨rfl, rfl⟩)
    go_ret3
    exact ⟨rfl, rfl⟩
  · have ht : ((b : Int) == 0) = false := by simp; omega
    rw [if_neg hb]
    clear hb hr
    go_enter Try.func19, Try.ntmps19
    go_wp2_with (go_at_call 43; refine c1.mono ?_; rintro e w' ⟨rfl, rfl⟩)
    go_ret3
    exact ⟨rfl, rfl⟩
set_option maxHeartbeats 800000 in
theorem ref_ReadGamma (A : Option Addr) (n c : Nat) (l : List Bool) (a b : Nat) (w : World) {B : Nat} (h : Reads w B A n (vb l)) (hn : n ≤ 140737488355328) (hcap : n ≤ c) (hr : Hid (rdR l n 1048576 = (a, b))) :
    Calls Try.prog 20 #[.slice A n c, .bool false] w (Ret w (.tuple #[.int .i64 (a : Int), .int .i64 (b : Int)])) := by
  have H := Lib.hid h.bool_len
  have HZ := Lib.hid (zN_le l)
  have hz := hr.out
  rw [rdR_ref H.out] at hz
  have HR := Lib.hid hz
  clear hr hz
  go_enter Try.func20, Try.ntmps20
  go_wp2
  go_loop [6] (fun zv => ∃ k : Nat, k ≤ zN l ∧ zv = .int .i64 k) (fun zv => n - (intOf zv).toNat)
  case atStart => exact ⟨0, by omega, rfl⟩
  case round =>
    obtain ⟨k, hk, rfl⟩ := hrel
    have hkn : k ≤ n := by have h1 := HZ.out; have h2 := H.out; omega
    have fin : k = zN l → Hid (k = zN l) := fun e => e
    by_cases hlt : k < n ∧ l[k]? = some false
    · obtain ⟨hlt, hf⟩ := hlt
      obtain ⟨ad, bb, rfl, hb, hx, hc⟩ := h.bool_at hlt
      obtain rfl : bb = false := by have := hx.symm.trans hf; injection this
      have hk2 := zN_false hk hx
      have i1 : (0 : Int) ≤ (k : Int) := Int.natCast_nonneg k
      have i2 : (k : Int) < (n : Int) := Int.ofNat_lt.2 hlt
      clear hx hf fin
      go_wp2
      go_round
      case rel => exact ⟨k + 1, hk2, by go_num⟩
      case measure => simp [intOf]; omega
    · have hE : k = zN l := by
        rcases Nat.lt_or_ge k n with h1 | h1
        · obtain ⟨ad, bb, _, hb, hx, hc⟩ := h.bool_at h1
          cases bb
          · exact absurd ⟨h1, hx⟩ hlt
          · exact zN_true hk hx
        · have h2 := HZ.out; have h3 := H.out; omega
      have HKZ := Lib.hid hE
      rw [← hE] at HR
      have hcell : k < n → ∃ ad, A = some ad ∧ w.cell? (ad.add k) = some (.bool true) := fun h1 => by
        obtain ⟨ad, bb, e, hb, hx, hc⟩ := h.bool_at h1
        cases bb
        · exact absurd ⟨h1, hx⟩ hlt
        · exact ⟨ad, e, hc⟩
      have HG : Hid (gamN l = numF (subL l k (k + 1)) (k + 1)) := by unfold Hid gamN; rw [hE]
      clear hE hlt fin
      -- behind the loop
      by_cases hbad : 20 < k ∨ n < 2 * k + 1
      · have hz := HR.out
        rw [if_neg (by omega)] at hz
        injection hz with e1 e2
        subst e1
        subst e2
        clear HR
        by_cases h1 : k < n
        · obtain ⟨ad, rfl, hc⟩ := hcell h1
          have i1 : (0 : Int) ≤ (k : Int) := Int.natCast_nonneg k
          have i2 : (k : Int) < (n : Int) := Int.ofNat_lt.2 h1
          by_cases h2 : 20 < k
          · have h3 : (21 : Int) < (k : Int) + 1 := by omega
            clear hbad hcell
            go_wp2
            go_ret2
            exact ⟨rfl, rfl⟩
          · have h3 : ¬ (21 : Int) < (k : Int) + 1 := by omega
            have h4 : (n : Int) < (k : Int) + ((k : Int) + 1) := by omega
            clear hbad hcell
            go_wp2
            go_ret2
            exact ⟨rfl, rfl⟩
        · have hkn2 : k = n := by omega
          clear hcell h1
          by_cases h2 : 20 < k
          · have h3 : (21 : Int) < (k : Int) + 1 := by omega
            have h5 : ¬ (k : Int) < (n : Int) := by omega
            clear hbad hkn2
            go_wp2
            go_ret2
            exact ⟨rfl, rfl⟩
          · have h3 : ¬ (21 : Int) < (k : Int) + 1 := by omega
            have h4 : (n : Int) < (k : Int) + ((k : Int) + 1) := by omega
            have h5 : ¬ (k : Int) < (n : Int) := by omega
            clear hbad hkn2
            go_wp2
            go_ret2
            exact ⟨rfl, rfl⟩
      · obtain ⟨ad, e, hc⟩ := hcell (by omega)
        subst e
        have i1 : (0 : Int) ≤ (k : Int) := Int.natCast_nonneg k
        have i2 : (k : Int) < (n : Int) := by omega
        have hm := h.mid (k := k) (m := k + 1) (by omega)
        have cn := fun q => ref_number (some (ad.add k)) (k + 1) q (subL l k (k + 1)) w hm (by omega)
        rw [← HG.out] at cn
        have hz := HR.out
        generalize gamN l = g at *
        have h3 : ¬ (21 : Int) < (k : Int) + 1 := by omega
        have h4 : ¬ (n : Int) < (k : Int) + ((k : Int) + 1) := by omega
        obtain ⟨hi, hhi⟩ : ∃ hi : Nat, hi = k + (k + 1) := ⟨_, rfl⟩
        have ehi : (k : Int) + ((k : Int) + 1) = (hi : Int) := by omega
        have esz : hi - k = k + 1 := by omega
        have hhic : hi ≤ c := by omega
        have hkhi : k ≤ hi := by omega
        have hkc : k < c := by omega
        rw [ehi] at h4
        by_cases h5 : g ≤ 1048576
        · rw [if_pos ⟨by omega, by omega, h5⟩] at hz
          injection hz with e1 e2
          subst e1
          have h6 : ¬ (1048576 : Int) < (g : Int) := by omega
          have HB : Hid ((hi : Int) = (b : Int)) := by unfold Hid; omega
          clear HR h5 hm HG hhi e2 hbad hcell
          go_wp2_with (go_at_call 44; refine (cn _).mono ?_; rintro e w' ⟨rfl, rfl⟩)
          go_ret2
          exact ⟨ret_ii (by rw [HB.out]), rfl⟩
        · rw [if_neg (by omega)] at hz
          injection hz with e1 e2
          subst e1
          subst e2
          have h6 : (1048576 : Int) < (g : Int) := by omega
          clear HR h5 hm HG hhi hbad hcell
          go_wp2_with (go_at_call 44; refine (cn _).mono ?_; rintro e w' ⟨rfl, rfl⟩)
          go_ret2
          exact ⟨rfl, rfl⟩
set_option maxHeartbeats 400000 in
theorem EliasReadsGamma_walk (A : Option Addr) (n c : Nat) (l : List Bool) (w : World) (h : Reads w w.heap.size A n (vb l)) (hm : n * 1 ≤ reachBytes) (hcap : n ≤ c) :
    Calls Try.prog 4 #[.slice A n c] w (LawTrue w) := by
  have hn : n ≤ 140737488355328 := by have := reachBytes_lt; omega
  obtain ⟨a, b, hr⟩ : ∃ a b, Hid (rdR l n 1048576 = (a, b)) := ⟨_, _, rfl⟩
  have c1 := elias_ReadGamma A n c l a b w h hn hcap hr
  have c2 := ref_ReadGamma A n c l a b w h hn hcap hr
  clear hm
  by_cases hb : b = 0
  · subst hb
    obtain rfl := rdR_zero hr.out
    rw [if_pos rfl] at c1
    clear hr
    go_enter Try.func4, Try.ntmps4
    go_wp2_with (first | (go_at_call 19; refine c1.mono ?_; rintro e w1 ⟨rfl, rfl⟩) | (go_at_call 20; refine c2.mono ?_; rintro e w' ⟨rfl, rfl⟩))
    go_ret
    exact .same _
  · have ht : ((b : Int) == 0) = false := by simp; omega
    rw [if_neg hb] at c1
    clear hr hb
    go_enter Try.func4, Try.ntmps4
    go_wp2_with (first | (go_at_call 19; refine c1.mono ?_; rintro e w1 ⟨rfl, rfl⟩) | (go_at_call 20; refine c2.mono ?_; rintro e w' ⟨rfl, rfl⟩))
    go_ret
    exact .same _
end Go.Proofs.Ytfhpgiidcggobaa

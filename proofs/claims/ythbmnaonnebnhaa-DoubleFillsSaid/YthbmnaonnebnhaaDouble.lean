import Derived.Test.YthbmnaonnebnhaaFieldp
set_option linter.unusedVariables false
namespace Go.Proofs.Ythbmnaonnebnhaa
open Go.RowKit

def dbA (l : List Nat) : Nat → Nat
  | 0 => 0
  | k + 1 => dbA l k ^^^ l.getD k 0
def dbB (l : List Nat) : Nat → Nat
  | 0 => 0
  | k + 1 => dbB l k ^^^ gm (l.getD k 0) (gp 2 k)
set_option maxHeartbeats 600000 in
theorem double_sums (A : Option Addr) (n c : Nat) (l : List Nat) (w : World) {B : Nat} (h : Reads w B A n (vn .i64 l)) (hn : n ≤ 1000) (hl : ∀ x ∈ l, x < 16) :
    Calls Try.prog 49 #[.slice A n c] w (Ret w (.tuple #[.int .i64 (dbA l n : Int), .int .i64 (dbB l n : Int)])) := by
  have HL := Lib.hid hl
  go_enter Try.func49, Try.ntmps49
  go_wp2
  go_loop [4, 5, 10] (fun a b i => ∃ k p q : Nat, k ≤ n ∧ i = .int .i64 k ∧ a = .int .i64 p ∧ b = .int .i64 q ∧ p < 16 ∧ q < 16 ∧ Hid (dbA l k = p) ∧ Hid (dbB l k = q)) (fun _ _ i => n - (intOf i).toNat)
  case atStart => exact ⟨0, 0, 0, by omega, rfl, rfl, rfl, by omega, by omega, rfl, rfl⟩
  case round =>
    obtain ⟨k, p, q, hk, rfl, rfl, rfl, hp, hq, ha, hb⟩ := hrel
    by_cases hlt : k < n
    · obtain ⟨ad, x, rfl, _, hx, hc⟩ := h.nat_at hlt
      have hx16 := HL.out x (mem_at hx)
      have hg := gp_lt (a := 2) (by omega) k
      have HA : Hid (dbA l (k + 1) = p ^^^ x) := by unfold Hid dbA; rw [ha.out]; simp [List.getD, hx]
      have HB : Hid (dbB l (k + 1) = q ^^^ gm x (gp 2 k)) := by unfold Hid; rw [dbB, hb.out]; simp [List.getD, hx]
      have c1 := field_Power 2 k w (by omega) (by omega)
      have c2 := field_Times x (gp 2 k) w hx16 hg
      have hm := gm_lt hx16 hg
      have e1 := i64_xor_nat p x (by omega) (by omega)
      have e2 := i64_xor_nat q (gm x (gp 2 k)) (by omega) (by omega)
      have h1 := xor_lt16 hp hx16
      have h2 := xor_lt16 hq hm
      clear hx ha hb
      generalize gm x (gp 2 k) = y at *
      generalize gp 2 k = g at *
      go_wp2_with (first | (go_at_call 43; refine c1.mono ?_; rintro e w' ⟨rfl, rfl⟩) | (go_at_call 41; refine c2.mono ?_; rintro e w' ⟨rfl, rfl⟩))
      go_round
      case rel => exact ⟨k + 1, p ^^^ x, q ^^^ y, by omega, by go_num, by rw [← e1], by rw [← e2], h1, h2, HA, HB⟩
      case measure => simp [intOf]; omega
    · obtain rfl : k = n := by omega
      go_wp2
      go_ret2
      exact ⟨by rw [ha.out, hb.out]; rfl, rfl⟩
set_option maxHeartbeats 600000 in
theorem ref_Doubles (A : Option Addr) (n c : Nat) (l : List Nat) (w : World) {B : Nat} (h : Reads w B A n (vn .i64 l)) (hn : n ≤ 1000) (hl : ∀ x ∈ l, x < 16) :
    Calls Try.prog 27 #[.slice A n c] w (Ret w (.tuple #[.int .i64 (dbA l n : Int), .int .i64 (dbB l n : Int)])) := by
  have HL := Lib.hid hl
  go_enter Try.func27, Try.ntmps27
  go_wp2
  go_loop [4, 5, 10] (fun a b i => ∃ k p q : Nat, k ≤ n ∧ i = .int .i64 k ∧ a = .int .i64 p ∧ b = .int .i64 q ∧ p < 16 ∧ q < 16 ∧ Hid (dbA l k = p) ∧ Hid (dbB l k = q)) (fun _ _ i => n - (intOf i).toNat)
  case atStart => exact ⟨0, 0, 0, by omega, rfl, rfl, rfl, by omega, by omega, rfl, rfl⟩
  case round =>
    obtain ⟨k, p, q, hk, rfl, rfl, rfl, hp, hq, ha, hb⟩ := hrel
    by_cases hlt : k < n
    · obtain ⟨ad, x, rfl, _, hx, hc⟩ := h.nat_at hlt
      have hx16 := HL.out x (mem_at hx)
      have hg := gp_lt (a := 2) (by omega) k
      have HA : Hid (dbA l (k + 1) = p ^^^ x) := by unfold Hid dbA; rw [ha.out]; simp [List.getD, hx]
      have HB : Hid (dbB l (k + 1) = q ^^^ gm x (gp 2 k)) := by unfold Hid; rw [dbB, hb.out]; simp [List.getD, hx]
      have c1 := ref_Pow 2 k w (by omega) (by omega)
      have c2 := ref_Mul x (gp 2 k) w hx16 hg
      have hm := gm_lt hx16 hg
      have e1 := i64_xor_nat p x (by omega) (by omega)
      have e2 := i64_xor_nat q (gm x (gp 2 k)) (by omega) (by omega)
      have h1 := xor_lt16 hp hx16
      have h2 := xor_lt16 hq hm
      clear hx ha hb
      generalize gm x (gp 2 k) = y at *
      generalize gp 2 k = g at *
      go_wp2_with (first | (go_at_call 20; refine c1.mono ?_; rintro e w' ⟨rfl, rfl⟩) | (go_at_call 16; refine c2.mono ?_; rintro e w' ⟨rfl, rfl⟩))
      go_round
      case rel => exact ⟨k + 1, p ^^^ x, q ^^^ y, by omega, by go_num, by rw [← e1], by rw [← e2], h1, h2, HA, HB⟩
      case measure => simp [intOf]; omega
    · obtain rfl : k = n := by omega
      go_wp2
      go_ret2
      exact ⟨by rw [ha.out, hb.out]; rfl, rfl⟩
def dbErr (l : List Int) (n : Nat) : Int := if n = 0 then 3 else if 12 < n then 1 else fldErr l
set_option maxHeartbeats 400000 in
theorem double_Put_err (A : Option Addr) (n c : Nat) (l : List Int) (z : Int) (w : World) (h : Reads w w.heap.size A n (vi .i64 l)) (hn : n ≤ maxLen) (hz : Hid (dbErr l n = z)) (h0 : (z != 0) = true) :
    Calls Try.prog 26 #[.slice A n c] w (RetQ w (.tuple #[.int .i64 0, .int .i64 0, .int .i64 z])) := by
  have hz2 := hz.out
  unfold dbErr at hz2
  by_cases h1 : n = 0
  · rw [if_pos h1] at hz2
    subst hz2
    subst h1
    clear h hn hz
    go_enter Try.func26, Try.ntmps26
    go_wp2
    go_ret3
    exact ⟨rfl, 0, rfl⟩
  · rw [if_neg h1] at hz2
    by_cases h2 : 12 < n
    · rw [if_pos h2] at hz2
      subst hz2
      clear hz
      go_enter Try.func26, Try.ntmps26
      go_wp2
      go_ret3
      exact ⟨rfl, 0, rfl⟩
    · rw [if_neg h2] at hz2
      have c1 := field_Check A n c l z w h hn hz2
      clear hz hz2 hn
      go_enter Try.func26, Try.ntmps26
      go_wp2_with (go_at_call 40; refine c1.mono ?_; rintro e w' ⟨rfl, m1, rfl⟩)
      go_ret3
      exact ⟨rfl, m1, rfl⟩
set_option maxHeartbeats 400000 in
theorem double_Put (A : Option Addr) (n c : Nat) (l : List Nat) (w : World) (h : Reads w w.heap.size A n (vn .i64 l)) (h1 : 0 < n) (h2 : n ≤ 12) (hl : ∀ x ∈ l, x < 16) :
    Calls Try.prog 26 #[.slice A n c] w (RetQ w (.tuple #[.int .i64 (dbA l n : Int), .int .i64 (dbB l n : Int), .int .i64 0])) := by
  have c1 := field_Check A n c (l.map (fun x : Nat => (x : Int))) 0 w (by rw [show vi .i64 (l.map (fun x : Nat => (x : Int))) = vn .i64 l from by unfold vi vn; rw [List.map_map]; rfl]; exact h) (by unfold maxLen; omega) (fldErr_of_nats hl)
  have c2 := fun m => double_sums A n c l (w.drewN m) (h.drewN m) (by omega) hl
  clear hl
  generalize dbA l n = p at *
  generalize dbB l n = q at *
  go_enter Try.func26, Try.ntmps26
  go_wp2_with (first | (go_at_call 40; refine c1.mono ?_; rintro e w' ⟨rfl, m1, rfl⟩) | (go_at_call 49; refine (c2 _).mono ?_; rintro e w' ⟨rfl, rfl⟩))
  go_ret3
  exact ⟨rfl, m1, rfl⟩
set_option maxHeartbeats 400000 in
theorem DoublePuts_walk (A : Option Addr) (n c : Nat) (l : List Int) (w : World) (h : Reads w w.heap.size A n (vi .i64 l)) (_ : ∀ z ∈ l, (Lit.int .i64 z).wf = true) (hm : n * 8 ≤ reachBytes) :
    Calls Try.prog 8 #[.slice A n c] w (LawTrue w) := by
  have hn : n ≤ maxLen := by have := reachBytes_lt; unfold maxLen; omega
  clear hm
  by_cases h0 : dbErr l n = 0
  · unfold dbErr at h0
    split at h0
    · omega
    split at h0
    · omega
    obtain ⟨l', rfl, e2, hl⟩ := fldErr_nats h0
    rw [e2] at h
    have c1 := double_Put A n c l' w h (by omega) (by omega) hl
    have c2 := fun m => ref_FieldCheck A n c (l'.map (fun x : Nat => (x : Int))) 0 (w.drewN m) (by rw [e2]; exact h.drewN m) hn h0
    have c3 := fun m => ref_Doubles A n c l' (w.drewN m) (h.drewN m) (by omega) hl
    clear hl e2 h0 hn
    generalize dbA l' n = p at *
    generalize dbB l' n = q at *
    go_enter Try.func8, Try.ntmps8
    go_wp2_with (first | (go_at_call 26; refine c1.mono ?_; rintro e w1 ⟨rfl, m1, rfl⟩) | (go_at_call 15; refine (c2 _).mono ?_; rintro e w' ⟨rfl, rfl⟩) | (go_at_call 27; refine (c3 _).mono ?_; rintro e w' ⟨rfl, rfl⟩))
    go_ret
    exact .drewN _ _
  · have hz : (dbErr l n != 0) = true := by simpa using h0
    have c1 := double_Put_err A n c l (dbErr l n) w h hn rfl hz
    have HE : Hid (dbErr l n = if n = 0 then 3 else if 12 < n then 1 else fldErr l) := rfl
    have c2 := fun m z (hz : Hid (fldErr l = z)) => ref_FieldCheck A n c l z (w.drewN m) (h.drewN m) hn hz
    clear h0
    generalize dbErr l n = z at *
    by_cases h1 : n = 0
    · subst h1
      obtain rfl : z = 3 := HE.out
      clear c2
      go_enter Try.func8, Try.ntmps8
      go_wp2_with (go_at_call 26; refine c1.mono ?_; rintro e w1 ⟨rfl, m1, rfl⟩)
      go_ret
      exact .drewN _ _
    · by_cases h2 : 12 < n
      · obtain rfl : z = 1 := by rw [HE.out, if_neg h1, if_pos h2]
        clear c2
        go_enter Try.func8, Try.ntmps8
        go_wp2_with (go_at_call 26; refine c1.mono ?_; rintro e w1 ⟨rfl, m1, rfl⟩)
        go_ret
        exact .drewN _ _
      · have c2 := fun m => c2 m z (by unfold Hid; rw [HE.out, if_neg h1, if_neg h2])
        clear HE hn
        go_enter Try.func8, Try.ntmps8
        go_wp2_with (first | (go_at_call 26; refine c1.mono ?_; rintro e w1 ⟨rfl, m1, rfl⟩) | (go_at_call 15; refine (c2 _).mono ?_; rintro e w' ⟨rfl, rfl⟩))
        go_ret
        exact .drewN _ _
end Go.Proofs.Ythbmnaonnebnhaa

import Derived.Test.YtlpahkejimkjkaaBall
import Derived.Test.YtlpahkejimkjkaaOwn
namespace Go.Proofs.Ytlpahkejimkjkaa
open Go.RowKit

def graysL : Nat → List Nat
  | 0 => [0]
  | k + 1 => graysL k ++ (graysL k).reverse.map (· + 2 ^ k)
theorem graysL_len (k : Nat) : (graysL k).length = 2 ^ k := by
  induction k with
  | zero => rfl
  | succ k ih => simp [graysL, ih, Nat.pow_succ]; omega
def gpart (L : List Nat) (k t : Nat) : List Nat := L ++ (L.reverse.take t).map (· + 2 ^ k)
theorem gpart_zero (L : List Nat) (k : Nat) : gpart L k 0 = L := by simp [gpart]
theorem gpart_full (k : Nat) : gpart (graysL k) k (2 ^ k) = graysL (k + 1) := by
  unfold gpart; rw [List.take_of_length_le (by simp [graysL_len])]; rfl
theorem gpart_next {L : List Nat} {k t x : Nat} (h : L.reverse[t]? = some x) : gpart L k (t + 1) = gpart L k t ++ [x + 2 ^ k] := by
  unfold gpart; rw [take_next h]; simp
theorem gpart_len {L : List Nat} {k t : Nat} (h : t ≤ L.length) : (gpart L k t).length = L.length + t := by simp [gpart, h]
theorem gpart_get {L : List Nat} {k t i : Nat} (h : i < L.length) : (gpart L k t)[i]? = L[i]? := by
  unfold gpart; rw [List.getElem?_append_left h]
theorem rev_get {L : List Nat} {t : Nat} (h : t < L.length) : L.reverse[t]? = L[L.length - 1 - t]? := List.getElem?_reverse h
set_option maxRecDepth 1000000 in
theorem graysL_eq : ∀ n : Fin 13, graysL n.val = (List.range (2 ^ n.val)).map (fun i => i ^^^ (i / 2)) := by decide +kernel
theorem graysL_get {n i : Nat} (hn : n ≤ 12) (hi : i < 2 ^ n) : (graysL n)[i]? = some (i ^^^ (i / 2)) := by
  have := graysL_eq ⟨n, by omega⟩
  simp only at this
  rw [this, List.getElem?_map, List.getElem?_range hi]; rfl
theorem graysL_lt {n : Nat} (hn : n ≤ 12) : ∀ x ∈ graysL n, x < 4096 := by
  intro x hx
  obtain ⟨i, hi⟩ := List.getElem?_of_mem hx
  have hl : i < 2 ^ n := by
    have := (List.getElem?_eq_some_iff.1 hi).1; rwa [graysL_len] at this
  rw [graysL_get hn hl] at hi
  injection hi with hi
  have h12 := (pow_le12 hn).2
  rw [← hi]
  exact Nat.xor_lt_two_pow (n := 12) (by simpa using Nat.lt_of_lt_of_le hl h12) (by have : i < 4096 := Nat.lt_of_lt_of_le hl h12; simp; omega)

theorem el_u32 : Elem Try.prog 41 37 (.int .u32 0) 4 := Elem.mk' Try.underlying41 (by kernel_rfl) rfl

set_option maxHeartbeats 800000 in
theorem ref_Grays (n : Nat) (w : World) (hn : n ≤ 12) :
    Calls Try.prog 24 #[.int .i64 (n : Int)] w (RetS w 37 (vn .u32 (graysL n))) := by
  have o0 := Own.built (base := w.heap.size) (E := 37) w #[.int .u32 0] 1 rfl (by simp [maxLen]) (Nat.le_refl _)
  go_enter Try.func24, Try.ntmps24
  go_wp2
  go_loopw [3, 4] (fun v i wr => ∃ k p : Nat, k ≤ n ∧ Hid (p = 2 ^ k) ∧ i = .int .i64 k ∧ Own wr w.heap.size 37 v (vn .u32 (graysL k)) ∧ Below w.heap.size w wr) (fun _ i _ => n - (intOf i).toNat)
  case atStart => exact ⟨0, 1, by omega, rfl, rfl, o0, (Below.refl _ _).alloc (Nat.le_refl _) _⟩
  case round =>
    obtain ⟨k, p, hk, hp, rfl, hown, hbel⟩ := hrel
    have hp12 := pow_le12 (m := k) (by omega)
    rw [← hp.out] at hp12
    have hL := graysL_len k
    rw [← hp.out] at hL
    obtain ⟨A, c, e⟩ := hown.form
    rw [e] at hown ⊢
    clear e
    rw [show (vn .u32 (graysL k)).length = p from by rw [List.length_map, hL]] at hown ⊢
    by_cases hlt : k < n
    · clear hL
      go_wp2
      obtain ⟨wo, rfl⟩ : ∃ wo : World, wo = wr := ⟨_, rfl⟩
      go_loopw [3, 5] (fun v i wi => ∃ t : Nat, t ≤ p ∧ i = .int .i64 (p - 1 - t) ∧ Own wi w.heap.size 37 v (vn .u32 (gpart (graysL k) k t)) ∧ Below w.heap.size w wi) (fun _ i _ => (intOf i + 1).toNat)
      case atStart => exact ⟨0, by omega, by simp, by rw [gpart_zero]; exact hown, hbel⟩
      case round =>
        clear hown hbel
        obtain ⟨t, ht, rfl, hown, hbel⟩ := hrel
        by_cases hlt2 : t < p
        · have hL := graysL_len k
          rw [← hp.out] at hL
          have hl : (vn .u32 (gpart (graysL k) k t)).length = p + t := by rw [List.length_map, gpart_len (by omega), hL]
          obtain ⟨A, c, e⟩ := hown.form
          rw [e] at hown ⊢
          clear e
          rw [hl] at hown ⊢
          obtain ⟨ad, x, rfl, hb, hx, hc⟩ := (Own.reads hown).nat_at (k := p - 1 - t) (by omega)
          rw [gpart_get (by omega)] at hx
          have hx4 := graysL_lt (by omega) x (mem_at hx)
          have HX : Hid ((graysL k).reverse[t]? = some x) := by unfold Hid; rw [rev_get (by omega), hL]; exact hx
          have HN := Lib.hid (gpart_next (k := k) HX.out)
          have HP : Hid (vn .u32 (gpart (graysL k) k t ++ [x + 2 ^ k]) = vn .u32 (gpart (graysL k) k t) ++ [.int .u32 (x + p : Int)]) := by
            unfold Hid; rw [vn, List.map_append, hp.out]; simp
          have es := shl_int (m := k) (by omega)
          rw [← hp.out] at es
          have hl' : (vn .u32 (gpart (graysL k) k t)).length ≤ 8192 := by omega
          have hB : w.heap.size ≤ wr.heap.size := hbel.size
          clear hx hL hl
          go_wp2_with (at_builtin; refine app1 el_u32 rfl _ _ rfl rfl hown _ _ rfl rfl (by unfold maxLen; omega) (by omega) hB ?_)
          intro v1 w1 ho1 hb1 _ _
          go_wp2
          go_roundw
          case rel => exact ⟨t + 1, by omega, by go_num, by rw [HN.out, HP.out]; exact ho1, hbel.trans hb1⟩
          case measure => simp [intOf]; omega
        · obtain rfl : t = p := by omega
          rw [hp.out, gpart_full] at hown
          go_wp2
          go_roundw
          case rel => exact ⟨k + 1, t + t, by omega, by unfold Hid; rw [hp.out, Nat.pow_succ]; omega, by go_num, hown, hbel⟩
          case measure => simp [intOf]; omega
    · obtain rfl : k = n := by omega
      go_wp2
      go_ret
      refine ⟨A, c, ?_, ?_, hbel⟩
      · rw [List.length_map, hL]; rfl
      · rw [List.length_map, hL]; exact hown

theorem grays_at (n x : Nat) (w : World) (hn : n ≤ 12) (hx : x < 2 ^ n) :
    Calls Try.prog 24 #[.int .i64 (n : Int)] w fun e w' => ∃ ad c p, e = .returned (.slice (some ad) p c) ∧ x < p ∧ w'.cell? (ad.add x) = some (.int .u32 ((x ^^^ (x / 2) : Nat) : Int)) ∧ Below w.heap.size w w' := by
  refine (ref_Grays n w hn).mono fun e w' ⟨A, c, he, hown, hb⟩ => ?_
  have hl : (vn .u32 (graysL n)).length = 2 ^ n := by rw [List.length_map, graysL_len]
  rw [hl] at he hown
  obtain ⟨ad, y, rfl, _, hy, hc⟩ := (Own.reads hown).nat_at hx
  rw [graysL_get hn hx] at hy
  injection hy with hy
  subst hy
  exact ⟨ad, c, _, he, hx, hc, hb⟩
def codeRes (nb : Int) (x : Nat) : Int × Int := if bitsErr nb [x] = 0 then ((x ^^^ (x / 2) : Nat), 0) else (0, bitsErr nb [x])
set_option maxHeartbeats 400000 in
theorem gray_Code (nb : Int) (x : Nat) (a b : Int) (w : World) (hx : x < 4294967296) (hr : Hid (codeRes nb x = (a, b))) :
    Calls Try.prog 22 #[.int .i64 nb, .int .u32 (x:Int)] w fun e w' => e = .returned (.tuple #[.int .u32 a, .int .i64 b]) ∧ Below w.heap.size w w' := by
  have r := reads_new w #[.int .u32 (x:Int)] 37 1 rfl
  have c1 := fun b hb => ball_Check nb (some ⟨w.heap.size, 0, none⟩) 1 1 [x] b (w.alloc (.cells #[.int .u32 (x:Int)] 37)) (by simpa using r) hb (by unfold maxLen; omega) (by simpa using hx)
  by_cases h0 : bitsErr nb [x] = 0
  · have c2 := c1 0 h0
    have hm := u32_xor_nat x (x / 2) hx (by omega)
    rw [Int.natCast_ediv] at hm
    change bits .xor .u32 (x:Int) ((x:Int) / 2) = _ at hm
    clear c1 r
    go_enter Try.func22, Try.ntmps22
    go_wp2_with (go_at_call 48; refine c2.mono ?_; rintro e w' ⟨rfl, rfl⟩)
    go_ret2
    exact ⟨ret_ii (by rw [← hr.out, codeRes, if_pos h0]), (Below.refl _ _).alloc (Nat.le_refl _) _⟩
  · have c2 := c1 _ rfl
    have HR : Hid (codeRes nb x = (0, bitsErr nb [x])) := by simp [Hid, codeRes, h0]
    clear c1 r
    generalize bitsErr nb [x] = z at *
    go_enter Try.func22, Try.ntmps22
    go_wp2_with (go_at_call 48; refine c2.mono ?_; rintro e w' ⟨rfl, rfl⟩)
    go_ret2
    exact ⟨ret_ii (by rw [← hr.out, HR.out]), (Below.refl _ _).alloc (Nat.le_refl _) _⟩

theorem bitsErr1 {nb : Int} {x : Nat} (h : bitsErr nb [x] = 0) : ∃ n : Nat, nb = n ∧ n ≤ 12 ∧ x < 2 ^ n := by
  unfold bitsErr at h
  split at h
  · omega
  · split at h
    · rename_i h1 h2
      refine ⟨nb.toNat, by omega, by omega, ?_⟩
      simpa [fits] using h2
    · omega
set_option maxHeartbeats 400000 in
theorem GrayCodes_walk (nb : Int) (x : Nat) (w : World) (_ : (Lit.int .i64 nb).wf = true) (hx : x < 4294967296) :
    Calls Try.prog 6 #[.int .i64 nb, .int .u32 (x:Int)] w (LawTrue w) := by
  have c2 := fun (w : World) (b : Int) (hb : Hid (bitsErr nb [x] = b)) => ref_BitsCheck nb (some ⟨w.heap.size, 0, none⟩) 1 1 [x] b (w.alloc (.cells #[.int .u32 (x:Int)] 37)) (by simpa using reads_new w #[.int .u32 (x:Int)] 37 1 rfl) hb (by unfold maxLen; omega) (by simpa using hx)
  by_cases h0 : bitsErr nb [x] = 0
  · have c1 := gray_Code nb x (x ^^^ (x / 2) : Nat) 0 w hx (by simp [Hid, codeRes, h0])
    have c2 := fun w => c2 w 0 h0
    obtain ⟨n, rfl, hn, hxn⟩ := bitsErr1 h0
    have c3 := fun w => grays_at n x w hn hxn
    clear h0
    go_enter Try.func6, Try.ntmps6
    go_wp2_with (first | (go_at_call 22; refine c1.mono ?_; rintro e w1 ⟨rfl, hb1⟩) | (go_at_call 23; refine (c2 _).mono ?_; rintro e w' ⟨rfl, rfl⟩) | (go_at_call 24; refine (c3 _).mono ?_; rintro e w2 ⟨ad, c, p, rfl, hp, hc, hb2⟩))
    go_ret
    exact ⟨rfl, (hb1.alloc hb1.size _).trans (hb2.mono (by have := hb1.size; simp; omega))⟩
  · have c1 := gray_Code nb x 0 (bitsErr nb [x]) w hx (by simp [Hid, codeRes, h0])
    have c2 := fun w => c2 w _ rfl
    generalize bitsErr nb [x] = z at *
    go_enter Try.func6, Try.ntmps6
    go_wp2_with (first | (go_at_call 22; refine c1.mono ?_; rintro e w1 ⟨rfl, hb1⟩) | (go_at_call 23; refine (c2 _).mono ?_; rintro e w' ⟨rfl, rfl⟩))
    go_ret
    exact ⟨rfl, hb1.alloc hb1.size _⟩
end Go.Proofs.Ytlpahkejimkjkaa

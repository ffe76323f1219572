import Derived.Test.YtlpahkejimkjkaaGray
namespace Go.Proofs.Ytlpahkejimkjkaa
open Go.RowKit

def gpf : Nat → Nat → Nat
  | 0, _ => 0
  | f + 1, x => x ^^^ gpf f (x / 2)
theorem gpf_zero (f : Nat) : gpf f 0 = 0 := by
  induction f with
  | zero => rfl
  | succ f ih => simp [gpf, ih]
theorem gpf_lt {m : Nat} (f x : Nat) (h : x < 2 ^ m) : gpf f x < 2 ^ m := by
  induction f generalizing x with
  | zero => simpa [gpf] using Nat.pow_pos (by omega)
  | succ f ih => exact Nat.xor_lt_two_pow h (ih _ (by omega))
theorem gpf_code (f x : Nat) (h : x < 2 ^ f) : gpf f x ^^^ (gpf f x / 2) = x := by
  induction f generalizing x with
  | zero => have : x = 0 := by simpa using h
            subst this; rfl
  | succ f ih =>
    have h2 := ih (x / 2) (by rw [Nat.pow_succ] at h; omega)
    rw [gpf, Nat.xor_div_two]
    rw [Nat.xor_comm (x / 2), ← Nat.xor_assoc, Nat.xor_assoc x, h2, Nat.xor_assoc, Nat.xor_self, Nat.xor_zero]

def placeRes (nb : Int) (x : Nat) : Int × Int := if bitsErr nb [x] = 0 then ((gpf 32 x : Nat), 0) else (0, bitsErr nb [x])
set_option maxHeartbeats 400000 in
theorem gray_Place (nb : Int) (x : Nat) (a b : Int) (w : World) (hx : x < 4294967296) (hr : Hid (placeRes nb x = (a, b))) :
    Calls Try.prog 33 #[.int .i64 nb, .int .u32 (x:Int)] w fun e w' => e = .returned (.tuple #[.int .u32 a, .int .i64 b]) ∧ Below w.heap.size w w' := by
  have r := reads_new w #[.int .u32 (x:Int)] 37 1 rfl
  have c1 := fun b hb => ball_Check nb (some ⟨w.heap.size, 0, none⟩) 1 1 [x] b (w.alloc (.cells #[.int .u32 (x:Int)] 37)) (by simpa using r) hb (by unfold maxLen; omega) (by simpa using hx)
  by_cases h0 : bitsErr nb [x] = 0
  · have c2 := c1 0 h0
    have HR : Hid (placeRes nb x = (((gpf 32 x : Nat) : Int), 0)) := by unfold Hid placeRes; rw [if_pos h0]
    clear c1 r h0
    go_enter Try.func33, Try.ntmps33
    go_wp2_with (go_at_call 48; refine c2.mono ?_; rintro e w' ⟨rfl, rfl⟩)
    go_loop [1, 7] (fun v i => ∃ y acc f : Nat, v = .int .u32 y ∧ i = .int .u32 acc ∧ y < 4294967296 ∧ acc < 4294967296 ∧ Hid (y < 2 ^ f) ∧ Hid (acc ^^^ gpf f y = gpf 32 x)) (fun v _ => (intOf v).toNat)
    case atStart => exact ⟨x, 0, 32, rfl, rfl, hx, by omega, hx, by simp [Hid]⟩
    case round =>
      obtain ⟨y, acc, f, rfl, rfl, hy, ha, hf, hg⟩ := hrel
      by_cases h0 : y = 0
      · subst h0
        have HE : Hid (acc = gpf 32 x) := by have := hg.out; rw [gpf_zero, Nat.xor_zero] at this; exact this
        go_wp2
        go_ret2
        exact ⟨ret_ii (by rw [← hr.out, HR.out, ← HE.out]), (Below.refl _ _).alloc (Nat.le_refl _) _⟩
      · obtain ⟨f', rfl⟩ : ∃ f', f = f' + 1 := by
          cases f with
          | zero => have := hf.out; simp at this; omega
          | succ f' => exact ⟨f', rfl⟩
        have hm := u32_xor_nat acc y ha hy
        have hlt : acc ^^^ y < 4294967296 := Nat.xor_lt_two_pow (n := 32) ha hy
        have HG : Hid ((acc ^^^ y) ^^^ gpf f' (y / 2) = gpf 32 x) := by have := hg.out; rw [gpf, ← Nat.xor_assoc] at this; exact this
        have HF : Hid (y / 2 < 2 ^ f') := by have := hf.out; unfold Hid; rw [Nat.pow_succ] at this; omega
        have h1 : (0 : Int) < (y : Int) := by omega
        go_wp2
        go_round
        case rel => exact ⟨y / 2, acc ^^^ y, f', by simp, rfl, by omega, hlt, HF, HG⟩
        case measure => simp [intOf]; omega
  · have c2 := c1 _ rfl
    have HR : Hid (placeRes nb x = (0, bitsErr nb [x])) := by simp [Hid, placeRes, h0]
    clear c1 r
    generalize bitsErr nb [x] = z at *
    go_enter Try.func33, Try.ntmps33
    go_wp2_with (go_at_call 48; refine c2.mono ?_; rintro e w' ⟨rfl, rfl⟩)
    go_ret2
    exact ⟨ret_ii (by rw [← hr.out, HR.out]), (Below.refl _ _).alloc (Nat.le_refl _) _⟩

set_option maxHeartbeats 400000 in
theorem GrayPlaces_walk (nb : Int) (x : Nat) (w : World) (_ : (Lit.int .i64 nb).wf = true) (hx : x < 4294967296) :
    Calls Try.prog 10 #[.int .i64 nb, .int .u32 (x:Int)] w (LawTrue w) := by
  have c2 := fun (w : World) (b : Int) (hb : Hid (bitsErr nb [x] = b)) => ref_BitsCheck nb (some ⟨w.heap.size, 0, none⟩) 1 1 [x] b (w.alloc (.cells #[.int .u32 (x:Int)] 37)) (by simpa using reads_new w #[.int .u32 (x:Int)] 37 1 rfl) hb (by unfold maxLen; omega) (by simpa using hx)
  by_cases h0 : bitsErr nb [x] = 0
  · have c1 := gray_Place nb x (gpf 32 x : Nat) 0 w hx (by simp [Hid, placeRes, h0])
    have c2 := fun w => c2 w 0 h0
    obtain ⟨n, rfl, hn, hxn⟩ := bitsErr1 h0
    have hlt := gpf_lt 32 x hxn
    have c3 := fun w => grays_at n (gpf 32 x) w hn hlt
    rw [gpf_code 32 x hx] at c3
    have hlt' : ((gpf 32 x : Nat) : Int) < (2 : Int) ^ n % 4294967296 := by rw [shl_int hn]; exact Int.ofNat_lt.2 hlt
    clear h0 hlt hxn
    generalize gpf 32 x = y at *
    go_enter Try.func10, Try.ntmps10
    go_wp2_with (first | (go_at_call 33; refine c1.mono ?_; rintro e w1 ⟨rfl, hb1⟩) | (go_at_call 23; refine (c2 _).mono ?_; rintro e w' ⟨rfl, rfl⟩) | (go_at_call 24; refine (c3 _).mono ?_; rintro e w2 ⟨ad, c, p, rfl, hp, hc, hb2⟩))
    go_ret
    exact ⟨rfl, (hb1.alloc hb1.size _).trans (hb2.mono (by have := hb1.size; simp; omega))⟩
  · have c1 := gray_Place nb x 0 (bitsErr nb [x]) w hx (by simp [Hid, placeRes, h0])
    have c2 := fun w => c2 w _ rfl
    generalize bitsErr nb [x] = z at *
    go_enter Try.func10, Try.ntmps10
    go_wp2_with (first | (go_at_call 33; refine c1.mono ?_; rintro e w1 ⟨rfl, hb1⟩) | (go_at_call 23; refine (c2 _).mono ?_; rintro e w' ⟨rfl, rfl⟩))
    go_ret
    exact ⟨rfl, hb1.alloc hb1.size _⟩
end Go.Proofs.Ytlpahkejimkjkaa

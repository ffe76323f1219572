import Derived.Test.YtlpahkejimkjkaaWords
namespace Go.Proofs.Ytlpahkejimkjkaa
open Go.RowKit

theorem reads_new (w : World) (cs : Array Value) (T : TypeId) (n : Nat) (h : cs.size = n) : Reads (w.alloc (.cells cs T)) (w.heap.size + 1) (some ⟨w.heap.size, 0, none⟩) n cs.toList := by
  refine ⟨by simpa using h, fun _ => ⟨_, rfl, by simp, ?_⟩⟩
  intro j u hu
  have hh : (w.alloc (.cells cs T)).heap[w.heap.size]? = some (.cells cs T (0, 0)) := heap_alloc_new w _
  have := cell_of_row (w.alloc (.cells cs T)) w.heap.size j cs T (0, 0) hh
  have e : (⟨w.heap.size, 0, none⟩ : Addr).add j = ⟨w.heap.size, j, none⟩ := by unfold Addr.add; split <;> simp_all
  rw [e, this]
  simpa using hu
theorem popAux_bits (k x y : Nat) : Lib.popAux k (x ||| y) = Lib.popAux k (x ^^^ y) + Lib.popAux k (x &&& y) := by
  induction k generalizing x y with
  | zero => rfl
  | succ k ih =>
    have h1 : (x ||| y) / 2 = x / 2 ||| y / 2 := Nat.or_div_two
    have h2 : (x ^^^ y) / 2 = x / 2 ^^^ y / 2 := Nat.xor_div_two
    have h3 : (x &&& y) / 2 = x / 2 &&& y / 2 := Nat.and_div_two
    have m : (x ||| y) % 2 = (x ^^^ y) % 2 + (x &&& y) % 2 := by
      have a : ∀ z : Nat, z % 2 = if z.testBit 0 then 1 else 0 := fun z => by
        rw [Nat.testBit_zero]; rcases Nat.mod_two_eq_zero_or_one z with h | h <;> simp [h]
      rw [a (x ||| y), a (x ^^^ y), a (x &&& y), Nat.testBit_or, Nat.testBit_xor, Nat.testBit_and]
      cases x.testBit 0 <;> cases y.testBit 0 <;> rfl
    rw [Lib.popAux, Lib.popAux, Lib.popAux, h1, h2, h3, m, ih]
    omega
theorem pop_bits (x y : Nat) : (pop (x ||| y) : Int) - pop (x &&& y) = pop (x ^^^ y) := by
  have := popAux_bits 32 x y
  unfold pop; omega

def distRes (nb : Int) (x y : Nat) : Int × Int := if bitsErr nb [x, y] = 0 then ((pop (x ^^^ y) : Nat), 0) else (0, bitsErr nb [x, y])
theorem lt_of_list2 {x y : Nat} (hx : x < 4294967296) (hy : y < 4294967296) : ∀ z ∈ [x, y], z < 4294967296 := by
  intro z hz; simp at hz; rcases hz with rfl | rfl <;> assumption

set_option maxHeartbeats 400000 in
theorem ball_Dist (nb : Int) (x y : Nat) (a b : Int) (w : World) (hx : x < 4294967296) (hy : y < 4294967296) (hr : Hid (distRes nb x y = (a, b))) :
    Calls Try.prog 31 #[.int .i64 nb, .int .u32 (x:Int), .int .u32 (y:Int)] w fun e w' => e = .returned (.tuple #[.int .i64 a, .int .i64 b]) ∧ Below w.heap.size w w' := by
  have r := reads_new w #[.int .u32 (x:Int), .int .u32 (y:Int)] 37 2 rfl
  have c1 := fun b hb => ball_Check nb (some ⟨w.heap.size, 0, none⟩) 2 2 [x, y] b (w.alloc (.cells #[.int .u32 (x:Int), .int .u32 (y:Int)] 37)) (by simpa using r) hb (by unfold maxLen; omega) (lt_of_list2 hx hy)
  by_cases h0 : bitsErr nb [x, y] = 0
  · have c2 := c1 0 h0
    have hxy : x ^^^ y < 4294967296 := Nat.xor_lt_two_pow (n := 32) hx hy
    have hm := u32_xor_nat x y hx hy
    have c3 := fun w => ones_count (x ^^^ y) w hxy
    clear c1 r
    go_enter Try.func31, Try.ntmps31
    go_wp2_with (first | (go_at_call 48; refine c2.mono ?_; rintro e w' ⟨rfl, rfl⟩) | (go_at_call 52; refine (c3 _).mono ?_; rintro e w' ⟨rfl, m, rfl⟩))
    go_ret2
    refine ⟨ret_ii (by rw [← hr.out, distRes, if_pos h0]), below_drewN ((Below.refl _ _).alloc (Nat.le_refl _) _) _⟩
  · have c2 := c1 _ rfl
    have HR : Hid (distRes nb x y = (0, bitsErr nb [x, y])) := by simp [Hid, distRes, h0]
    clear c1 r
    generalize bitsErr nb [x, y] = z at *
    go_enter Try.func31, Try.ntmps31
    go_wp2_with (first | (go_at_call 48; refine c2.mono ?_; rintro e w' ⟨rfl, rfl⟩))
    go_ret2
    exact ⟨ret_ii (by rw [← hr.out, HR.out]), (Below.refl _ _).alloc (Nat.le_refl _) _⟩

set_option maxHeartbeats 400000 in
theorem ref_Apart (x y : Nat) (b : Int) (w : World) (hx : x < 4294967296) (hy : y < 4294967296) (hr : Hid ((pop (x ^^^ y) : Int) = b)) :
    Calls Try.prog 32 #[.int .u32 (x:Int), .int .u32 (y:Int)] w (Ret w (.int .i64 b)) := by
  have h1 : x ||| y < 4294967296 := Nat.or_lt_two_pow (n := 32) hx hy
  have h2 : x &&& y < 4294967296 := Nat.and_lt_two_pow (n := 32) _ hy
  have m1 := u32_or_nat x y hx hy
  have m2 := u32_and_nat x y hx hy
  have c1 := ref_Size (x ||| y) w h1
  have c2 := ref_Size (x &&& y) w h2
  have l1 := pop_le (x ||| y)
  have l2 := pop_le (x &&& y)
  have hs := Lib.hid (pop_bits x y)
  go_enter Try.func32, Try.ntmps32
  go_wp2_with fail
  refine c1.mono ?_
  rintro e w' ⟨rfl, rfl⟩
  go_wp2_with fail
  refine c2.mono ?_
  rintro e w' ⟨rfl, rfl⟩
  go_wp2_with fail
  go_ret
  exact ⟨ret_i (by rw [← hr.out, ← hs.out]), rfl⟩

set_option maxHeartbeats 400000 in
theorem BallDists_walk (nb : Int) (x y : Nat) (w : World) (_ : (Lit.int .i64 nb).wf = true) (hx : x < 4294967296) (hy : y < 4294967296) :
    Calls Try.prog 9 #[.int .i64 nb, .int .u32 (x:Int), .int .u32 (y:Int)] w (LawTrue w) := by
  have c2 := fun (w : World) (b : Int) (hb : Hid (bitsErr nb [x, y] = b)) => ref_BitsCheck nb (some ⟨w.heap.size, 0, none⟩) 2 2 [x, y] b (w.alloc (.cells #[.int .u32 (x:Int), .int .u32 (y:Int)] 37)) (by simpa using reads_new w #[.int .u32 (x:Int), .int .u32 (y:Int)] 37 2 rfl) hb (by unfold maxLen; omega) (lt_of_list2 hx hy)
  by_cases h0 : bitsErr nb [x, y] = 0
  · have c1 := ball_Dist nb x y (pop (x ^^^ y)) 0 w hx hy (by simp [Hid, distRes, h0])
    have c2 := fun w => c2 w 0 h0
    have c3 := fun w => ref_Apart x y _ w hx hy rfl
    clear h0
    go_enter Try.func9, Try.ntmps9
    go_wp2_with (first | (go_at_call 31; refine c1.mono ?_; rintro e w1 ⟨rfl, hb1⟩) | (go_at_call 23; refine (c2 _).mono ?_; rintro e w' ⟨rfl, rfl⟩) | (go_at_call 32; refine (c3 _).mono ?_; rintro e w' ⟨rfl, rfl⟩))
    go_ret
    exact ⟨rfl, hb1.alloc hb1.size _⟩
  · have c1 := ball_Dist nb x y 0 (bitsErr nb [x, y]) w hx hy (by simp [Hid, distRes, h0])
    have c2 := fun w => c2 w _ rfl
    generalize bitsErr nb [x, y] = z at *
    go_enter Try.func9, Try.ntmps9
    go_wp2_with (first | (go_at_call 31; refine c1.mono ?_; rintro e w1 ⟨rfl, hb1⟩) | (go_at_call 23; refine (c2 _).mono ?_; rintro e w' ⟨rfl, rfl⟩))
    go_ret
    exact ⟨rfl, hb1.alloc hb1.size _⟩
end Go.Proofs.Ytlpahkejimkjkaa

import Derived.Test.YthijnhoggdoklaaRestg
import Derived.Test.YthijnhoggdoklaaConcatBools
import Derived.Test.YthijnhoggdoklaaDigits
import Derived.Test.YthijnhoggdoklaaGuard
set_option linter.unusedVariables false
namespace Go.Proofs.Ythijnhoggdoklaa
open Go.RowKit

/-- with d zeros behind it -/
def padL (l : List Bool) (d : Nat) : List Bool := l ++ List.replicate d false
theorem padL_vb (l : List Bool) (d : Nat) : vb l ++ List.replicate d (Value.bool false) = vb (padL l d) := by
  unfold padL vb; rw [List.map_append, List.map_replicate]
theorem padL_len (l : List Bool) (d n : Nat) (h : l.length = n) : (padL l d).length = n + d := by unfold padL; simp [h]
def putL (g d : Nat) (l : List Bool) (n : Nat) : List Bool := l ++ digitsL (restF g d (padL l d) (n + d)) d
theorem putL_vb (g d : Nat) (l : List Bool) (n : Nat) : vb l ++ vb (digitsL (restF g d (padL l d) (n + d)) d) = vb (putL g d l n) := by unfold putL vb; rw [List.map_append]
set_option maxHeartbeats 400000 in
theorem rest_Put_err (g : Nat) (A : Option Addr) (n c : Nat) (z : Int) (w : World) (hg : g < 4294967296) (hn : n ≤ maxLen) (hz : Hid (restErr g n = z)) (h0 : (z != 0) = true) :
    Calls Try.prog 35 #[.int .u32 (g : Int), .slice A n c] w (Ret w (.tuple #[.slice none 0 0, .int .i64 z])) := by
  have c1 := rest_wrong g n z w hg hn hz
  go_enter Try.func35, Try.ntmps35
  go_wp2_with (go_at_call 39; refine c1.mono ?_; rintro e w' ⟨rfl, rfl⟩)
  go_ret2
  exact ⟨rfl, rfl⟩
set_option maxHeartbeats 400000 in
theorem rest_Put_long (g d : Nat) (A : Option Addr) (n c : Nat) (w : World) (hz : Hid (restErr g n = 0)) (hg : g < 131072) (h1 : 2 ^ d ≤ g) (h2 : g < 2 ^ (d + 1)) (hd : d ≤ 16) (hn : n ≤ 64) (hnd : 64 < n + d) :
    Calls Try.prog 35 #[.int .u32 (g : Int), .slice A n c] w (Ret w (.tuple #[.slice none 0 0, .int .i64 1])) := by
  have c1 := rest_wrong g n 0 w (by omega) (by unfold maxLen; omega) hz
  have c2 := rest_degree g d w hg h1 h2 hd
  have hbig : (64 : Int) < (n : Int) + (d : Int) := by omega
  clear h1 h2
  go_enter Try.func35, Try.ntmps35
  go_wp2_with (first | (go_at_call 39; refine c1.mono ?_; rintro e w' ⟨rfl, rfl⟩) | (go_at_call 51; refine c2.mono ?_; rintro e w' ⟨rfl, rfl⟩))
  go_ret2
  exact ⟨rfl, rfl⟩
theorem one_rep (d : Nat) : ∀ u ∈ List.replicate d (Value.bool false), u.oneCell' = true := by
  intro u hu; rw [(List.mem_replicate.1 hu).2]; rfl
set_option maxHeartbeats 800000 in
theorem rest_Put (g d : Nat) (A : Option Addr) (n c : Nat) (l : List Bool) (w : World) (h : Reads w w.heap.size A n (vb l)) (hz : Hid (restErr g n = 0)) (hg : g < 131072) (h1 : 2 ^ d ≤ g) (h2 : g < 2 ^ (d + 1)) (hd : d ≤ 16) (hn : n ≤ 64) (hnd : n + d ≤ 64) :
    Calls Try.prog 35 #[.int .u32 (g : Int), .slice A n c] w (RetSE' w 4 (vb (putL g d l n)) 0) := by
  have H := Lib.hid h.bool_len
  have c1 := rest_wrong g n 0 w (by omega) (by unfold maxLen; omega) hz
  have c2 := rest_degree g d w hg h1 h2 hd
  have c3 := fun (w1 : World) (hb1 : Below w.heap.size w w1) (ad : Addr) (h2 : Reads w1 w1.heap.size (some ad) d (List.replicate d (Value.bool false))) => concat_bools2 A (some ad) n d c d (vb l) _ w1 ((h.below hb1).more hb1.size) h2 (one_vb l) (one_rep d) (by omega)
  have c4 := fun (A2 : Option Addr) (c2 : Nat) (w2 : World) {B : Nat} (hr : Reads w2 B A2 (n + d) (vb (padL l d))) => rest_rest g d A2 (n + d) c2 (padL l d) w2 hr (by unfold maxLen; omega) hg h1 h2 hd
  have hrl := restF_lt (l := padL l d) h1 h2 (n + d)
  have hp16 : 2 ^ d ≤ 2 ^ 16 := Nat.pow_le_pow_right (by omega) hd
  have hq : restF g d (padL l d) (n + d) < 65536 := by omega
  have HPU := Lib.hid (putL_vb g d l n)
  clear h1 h2 hrl hp16
  generalize restF g d (padL l d) (n + d) = q at *
  have c5 := fun w => kraft_Digits q d w (by omega) (by omega)
  have c6 := fun (w2 : World) (hb2 : Below w.heap.size w w2) (A3 : Option Addr) (n3 k3 : Nat) (h3 : Reads w2 w2.heap.size A3 n3 (vb (digitsL q d))) => concat_bools2 A A3 n n3 c k3 (vb l) _ w2 ((h.below hb2).more hb2.size) h3 (one_vb l) (one_vb _) (by have := h3.bool_len; rw [digitsL_len] at this; omega)
  go_enter Try.func35, Try.ntmps35
  go_wp2_with (first | (go_at_call 39; refine c1.mono ?_; rintro e w' ⟨rfl, rfl⟩) | (go_at_call 51; refine c2.mono ?_; rintro e w' ⟨rfl, rfl⟩) | (at_make; refine mkN el_clone_bools rfl _ _ rfl w.heap.size d rfl rfl rfl rfl (by omega) (by unfold maxLen; omega) (Nat.le_refl _) ?_; intro w1 ho1 hb1 hs1; have c3 := c3 w1 hb1 _ ho1.reads) | (go_at_call 54; refine c3.mono ?_; clear c3; rintro e w2 ⟨A2, n2, k2, rfl, ho2, hb2⟩; obtain rfl : n2 = n + d := (by have := ho2.len; simp at this; rw [← this, H.out]); rw [padL_vb] at ho2; have hbw := hb1.trans (hb2.mono hb1.size); have c4 := c4 A2 k2 w2 ho2.reads) | (go_at_call 40; refine c4.mono ?_; rintro e w' ⟨rfl, rfl⟩) | (go_at_call 55; refine (c5 _).mono ?_; rintro e w3 ⟨A3, n3, k3, rfl, ho3, hb3⟩; have hbw3 := hbw.trans (hb3.mono hbw.size); have c6 := c6 w3 hbw3 A3 n3 k3 ho3.reads) | (go_at_call 54; refine c6.mono ?_; rintro e w4 ⟨A4, n4, k4, rfl, ho4, hb4⟩))
  go_ret2
  exact ⟨A4, n4, k4, rfl, by rw [HPU.out] at ho4; exact ho4.low hbw3.size, hbw3.trans (hb4.mono hbw3.size)⟩
end Go.Proofs.Ythijnhoggdoklaa

import Derived.Test.YthijnhoggdoklaaResto
import Derived.Test.YthijnhoggdoklaaBools
set_option linter.unusedVariables false
namespace Go.Proofs.Ythijnhoggdoklaa
open Go.RowKit

set_option maxHeartbeats 400000 in
theorem ref_DegreeAny (x : Nat) (w : World) (hx : x < 4294967296) :
    Calls Try.prog 30 #[.int .u32 (x : Int)] w (Ret w (.int .i64 (topB x 32 : Int))) := by
  go_enter Try.func30, Try.ntmps30
  go_wp2
  go_loop [3, 4] (fun s i => ∃ k : Nat, k ≤ 32 ∧ i = .int .i64 k ∧ s = .int .i64 (topB x k : Int)) (fun _ i => 32 - (intOf i).toNat)
  case atStart => exact ⟨0, by omega, rfl, rfl⟩
  case round =>
    obtain ⟨k, hk, rfl, rfl⟩ := hrel
    by_cases hlt : k < 32
    · have c := ref_Bit x k w hx hlt
      have HS : Hid (topB x (k + 1) = if bitB x k then k else topB x k) := rfl
      have htl := topB_le x k
      generalize topB x k = q at *
      generalize bitB x k = b at *
      cases b
      all_goals
        go_wp2_with (go_at_call 41; refine c.mono ?_; rintro e w' ⟨rfl, rfl⟩)
        go_round
        case rel => exact ⟨k + 1, by omega, by go_num, by rw [HS.out]; rfl⟩
        case measure => simp [intOf]; omega
    · obtain rfl : k = 32 := by omega
      go_wp2
      go_ret
      exact ⟨rfl, rfl⟩
theorem one_vb (l : List Bool) : ∀ u ∈ vb l, u.oneCell' = true := by
  intro u hu
  obtain ⟨b, _, rfl⟩ := List.mem_map.1 hu
  rfl
theorem Reads.takeB {w : World} {B n k : Nat} {A : Option Addr} {l : List Bool} (h : Reads w B A n (vb l)) (hk : k ≤ n) : Reads w B A k (vb (l.take k)) := by
  have := h.take hk
  rwa [← List.map_take] at this

set_option maxHeartbeats 400000 in
theorem rest_Get_err (g : Nat) (A : Option Addr) (n c : Nat) (z : Int) (w : World) (hg : g < 4294967296) (hn : n ≤ maxLen) (hz : Hid (restErr g n = z)) (h0 : (z != 0) = true) :
    Calls Try.prog 29 #[.int .u32 (g : Int), .slice A n c] w (Ret w (.tuple #[.slice none 0 0, .int .i64 z])) := by
  have c1 := rest_wrong g n z w hg hn hz
  go_enter Try.func29, Try.ntmps29
  go_wp2_with (go_at_call 39; refine c1.mono ?_; rintro e w' ⟨rfl, rfl⟩)
  go_ret2
  exact ⟨rfl, rfl⟩
set_option maxHeartbeats 400000 in
theorem rest_Get_short (g d : Nat) (A : Option Addr) (n c : Nat) (w : World) (hz : Hid (restErr g n = 0)) (hg : g < 131072) (h1 : 2 ^ d ≤ g) (h2 : g < 2 ^ (d + 1)) (hd : d ≤ 16) (hn : n < d) :
    Calls Try.prog 29 #[.int .u32 (g : Int), .slice A n c] w (Ret w (.tuple #[.slice none 0 0, .int .i64 3])) := by
  have c1 := rest_wrong g n 0 w (by omega) (by unfold maxLen; omega) hz
  have c2 := rest_degree g d w hg h1 h2 hd
  have hneg : (n : Int) - (d : Int) < 0 := by omega
  clear h1 h2
  go_enter Try.func29, Try.ntmps29
  go_wp2_with (first | (go_at_call 39; refine c1.mono ?_; rintro e w' ⟨rfl, rfl⟩) | (go_at_call 51; refine c2.mono ?_; rintro e w' ⟨rfl, rfl⟩))
  go_ret2
  exact ⟨rfl, rfl⟩
set_option maxHeartbeats 400000 in
theorem rest_Get_sum (g d : Nat) (A : Option Addr) (n c : Nat) (l : List Bool) (w : World) (h : Reads w w.heap.size A n (vb l)) (hz : Hid (restErr g n = 0)) (hg : g < 131072) (h1 : 2 ^ d ≤ g) (h2 : g < 2 ^ (d + 1)) (hd : d ≤ 16) (hn : d ≤ n) (hn64 : n ≤ 64)
    (hr : ((restF g d l n : Int) != 0) = true) :
    Calls Try.prog 29 #[.int .u32 (g : Int), .slice A n c] w (Ret w (.tuple #[.slice none 0 0, .int .i64 8])) := by
  have c1 := rest_wrong g n 0 w (by omega) (by unfold maxLen; omega) hz
  have c2 := rest_degree g d w hg h1 h2 hd
  have c3 := rest_rest g d A n c l w h (by unfold maxLen; omega) hg h1 h2 hd
  obtain ⟨k, hk⟩ : ∃ k, k = n - d := ⟨_, rfl⟩
  have ek : (n : Int) - (d : Int) = (k : Int) := by omega
  clear h1 h2 hk
  generalize restF g d l n = q at *
  go_enter Try.func29, Try.ntmps29
  go_wp2_with (first | (go_at_call 39; refine c1.mono ?_; rintro e w' ⟨rfl, rfl⟩) | (go_at_call 51; refine c2.mono ?_; rintro e w' ⟨rfl, rfl⟩) | (go_at_call 40; refine c3.mono ?_; rintro e w' ⟨rfl, rfl⟩))
  go_ret2
  exact ⟨rfl, rfl⟩
def RetSE' (w : World) (E : TypeId) (xs : List Value) (z : Int) (e : Ending) (w' : World) : Prop :=
  ∃ A n c, e = .returned (.tuple #[.slice A n c, .int .i64 z]) ∧ Own w' w.heap.size E (.slice A n c) xs ∧ Below w.heap.size w w'
set_option maxHeartbeats 400000 in
theorem rest_Get (g d : Nat) (A : Option Addr) (n c : Nat) (l : List Bool) (w : World) (h : Reads w w.heap.size A n (vb l)) (hcap : n ≤ c) (hz : Hid (restErr g n = 0)) (hg : g < 131072) (h1 : 2 ^ d ≤ g) (h2 : g < 2 ^ (d + 1)) (hd : d ≤ 16) (hd1 : 1 ≤ d) (hn : d ≤ n) (hn64 : n ≤ 64)
    (hr : restF g d l n = 0) :
    Calls Try.prog 29 #[.int .u32 (g : Int), .slice A n c] w (RetSE' w 4 (vb (l.take (n - d))) 0) := by
  have c1 := rest_wrong g n 0 w (by omega) (by unfold maxLen; omega) hz
  have c2 := rest_degree g d w hg h1 h2 hd
  have c3 := rest_rest g d A n c l w h (by unfold maxLen; omega) hg h1 h2 hd
  rw [hr] at c3
  obtain ⟨ad, e⟩ := h.addr (by omega)
  subst e
  obtain ⟨k, hk⟩ : ∃ k, k = n - d := ⟨_, rfl⟩
  have ek : (n : Int) - (d : Int) = (k : Int) := by omega
  have hkn : k ≤ n := by omega
  have hkc : k ≤ c := by omega
  have c4 := clone_bools (some ad) k c (vb (l.take k)) w (h.takeB hkn) (one_vb _) (by omega)
  rw [← hk]
  clear h1 h2 hk hr
  go_enter Try.func29, Try.ntmps29
  go_wp2_with (first | (go_at_call 39; refine c1.mono ?_; rintro e w' ⟨rfl, rfl⟩) | (go_at_call 51; refine c2.mono ?_; rintro e w' ⟨rfl, rfl⟩) | (go_at_call 40; refine c3.mono ?_; rintro e w' ⟨rfl, rfl⟩) | (go_at_call 52; refine c4.mono ?_; rintro e w1 ⟨A1, n1, k1, rfl, ho1, hb1⟩))
  go_ret2
  exact ⟨A1, n1, k1, rfl, ho1, hb1⟩
set_option maxHeartbeats 800000 in
theorem RestGets_walk (g : Nat) (A : Option Addr) (n c : Nat) (l : List Bool) (w : World) (hg : g < 4294967296) (h : Reads w w.heap.size A n (vb l)) (hm : n * 1 ≤ reachBytes) (hcap : n ≤ c) :
    Calls Try.prog 9 #[.int .u32 (g : Int), .slice A n c] w (LawTrue w) := by
  have hn : n ≤ 140737488355328 := by have := reachBytes_lt; omega
  have hnM : n ≤ maxLen := by unfold maxLen; omega
  clear hm
  by_cases h0 : restErr g n = 0
  · obtain ⟨hn64, hg2, d, hd1, hd16, h1, h2⟩ := restErr_ok h0
    have c2 := fun w => ref_RestCheck g A n c 0 w hg h0
    have c3 := fun w => ref_Degree g d w hg h1 h2 hd16
    by_cases hnd : n < d
    · have c1 := rest_Get_short g d A n c w h0 hg2 h1 h2 hd16 hnd
      have hneg : (n : Int) - (d : Int) < 0 := by omega
      clear h0 h1 h2
      go_enter Try.func9, Try.ntmps9
      go_wp2_with (first | (go_at_call 29; refine c1.mono ?_; rintro e w1 ⟨rfl, rfl⟩) | (go_at_call 15; refine (c2 _).mono ?_; rintro e w' ⟨rfl, rfl⟩) | (go_at_call 30; refine (c3 _).mono ?_; rintro e w2 ⟨rfl, rfl⟩))
      go_ret
      exact .same _
    · obtain ⟨k, hk⟩ : ∃ k, k = n - d := ⟨_, rfl⟩
      have ek : (n : Int) - (d : Int) = (k : Int) := by omega
      have c4 := fun (w' : World) (hr : Reads w' w'.heap.size A n (vb l)) => ref_Rest g d A n c l w' hr (by omega) hg2 h1 h2 hd16 hd1
      by_cases hr : restF g d l n = 0
      · have c1 := rest_Get g d A n c l w h hcap h0 hg2 h1 h2 hd16 hd1 (by omega) hn64 hr
        rw [hr] at c4
        rw [← hk] at c1
        obtain ⟨ad, e⟩ := h.addr (by omega)
        subst e
        have hkc : k ≤ c := by omega
        have hkn : k ≤ n := by omega
        clear h0 h1 h2 hk hr hnd
        go_enter Try.func9, Try.ntmps9
        go_wp2_with (first | (go_at_call 29; refine c1.mono ?_; rintro e w1 ⟨A1, n1, k1, rfl, ho1, hb1⟩; have hr1 := (h.below hb1).more hb1.size) | (go_at_call 15; refine (c2 _).mono ?_; rintro e w' ⟨rfl, rfl⟩) | (go_at_call 30; refine (c3 _).mono ?_; rintro e w2 ⟨rfl, rfl⟩) | (go_at_call 16; refine (c4 _ hr1).mono ?_; rintro e w2 ⟨rfl, hb2⟩; have c5 := ref_Bools A1 (some ad) n1 k k1 c (l.take k) (l.take k) true w2 (ho1.reads.below hb2) ((hr1.below hb2).takeB hkn) (by have := ho1.reads.bool_len; rw [List.length_take] at this; unfold maxLen; omega) (by simp [Hid])) | (go_at_call 31; refine c5.mono ?_; rintro e w3 ⟨rfl, m3, rfl⟩))
        go_ret
        exact ⟨rfl, below_drewN (hb1.trans (hb2.mono hb1.size)) _⟩
      · have ht : ((restF g d l n : Int) != 0) = true := by simp; omega
        have c1 := rest_Get_sum g d A n c l w h h0 hg2 h1 h2 hd16 (by omega) hn64 ht
        have c4 := c4 w h
        clear h0 h1 h2 hk hr hnd
        generalize restF g d l n = q at *
        go_enter Try.func9, Try.ntmps9
        go_wp2_with (first | (go_at_call 29; refine c1.mono ?_; rintro e w1 ⟨rfl, rfl⟩) | (go_at_call 15; refine (c2 _).mono ?_; rintro e w' ⟨rfl, rfl⟩) | (go_at_call 30; refine (c3 _).mono ?_; rintro e w2 ⟨rfl, rfl⟩) | (go_at_call 16; refine c4.mono ?_; rintro e w2 ⟨rfl, hb2⟩))
        go_ret
        exact ⟨rfl, hb2⟩
  · have hz : (restErr g n != 0) = true := by simpa using h0
    have hz2 : (restErr g n == 0) = false := by simpa using h0
    have c1 := rest_Get_err g A n c (restErr g n) w hg hnM rfl hz
    have c2 := fun w => ref_RestCheck g A n c (restErr g n) w hg rfl
    have c3 := fun w => ref_DegreeAny g w hg
    have htl := topB_le g 32
    clear h0
    generalize restErr g n = z at *
    generalize topB g 32 = t at *
    go_enter Try.func9, Try.ntmps9
    go_wp2_with (first | (go_at_call 29; refine c1.mono ?_; rintro e w1 ⟨rfl, rfl⟩) | (go_at_call 15; refine (c2 _).mono ?_; rintro e w' ⟨rfl, rfl⟩) | (go_at_call 30; refine (c3 _).mono ?_; rintro e w2 ⟨rfl, rfl⟩))
    go_ret
    exact .same _
end Go.Proofs.Ythijnhoggdoklaa

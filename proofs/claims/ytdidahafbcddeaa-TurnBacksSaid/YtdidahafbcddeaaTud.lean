/-
  turn.Turn: the comparison of two turns; the closure.
-/
import Derived.Test.YtdidahafbcddeaaTuc
import Derived.Test.YtdidahafbcddeaaStabo
import Derived.Test.YtdidahafbcddeaaQuiet
import Derived.Test.YtdidahafbcddeaaConcatByte2
set_option linter.unusedVariables false
namespace Go.Proofs.Ytdidahafbcddeaa
open Go.RowKit Go.Shelf Go.Sort

theorem lastT_twice {T : List Nat} {i : Nat} (h : i < T.length) : (T ++ T)[i + T.length - 1]? = some (lastT T i) := by
  have e := trn_twice (T := T) (i := i) (Nat.le_of_lt h)
  unfold lastT
  rw [← e, List.getD_eq_getElem?_getD, List.getElem?_take_of_lt (by omega), List.getElem?_drop]
  have hl : i + (T.length - 1) < (T ++ T).length := by rw [List.length_append]; omega
  rw [show i + T.length - 1 = i + (T.length - 1) by omega, List.getElem?_eq_getElem hl]
  rfl
theorem reads_trn {W : World} {B n c : Nat} {ad : Addr} {T : List Nat} (h : Reads W B (some ad) (n + n) (vn .u8 (T ++ T))) (hT : T.length = n) {x : Nat} (hx : x < n) : Reads W B (some (ad.add x)) n (vn .u8 (trn T x)) := by
  refine ⟨by rw [List.length_map, trn_len (by omega), hT], fun h0 => ?_⟩
  obtain ⟨a, e, hb, hc⟩ := h.cells (by omega)
  injection e with e; subst e
  refine ⟨_, rfl, by rw [block_of_add]; exact hb, fun j u hu => ?_⟩
  rw [add_of_add]
  refine hc _ u ?_
  rw [List.getElem?_map] at hu ⊢
  rw [← trn_twice (by omega), hT] at hu
  have hj : j < n := by
    rcases Nat.lt_or_ge j n with c | c
    · exact c
    · rw [List.getElem?_eq_none (by simp; omega)] at hu; cases hu
  rw [List.getElem?_take_of_lt hj, List.getElem?_drop] at hu
  exact hu
set_option maxHeartbeats 800000 in
theorem turn_less (b5 b6 n c x y : Nat) (ad : Addr) (T : List Nat) (W : World) {B : Nat} (h : Reads W B (some ad) (n + n) (vn .u8 (T ++ T))) (hT : T.length = n) (hc : n + n ≤ c) (hn : n ≤ 64)
    (c6 : W.cell? ⟨b6, 0, none⟩ = some (.slice (some ad) (n + n) c)) (c5 : W.cell? ⟨b5, 0, none⟩ = some (.int .i64 (n : Int))) (hx : x < n) (hy : y < n) :
    Calls Try.prog 39 #[.int .i64 (x : Int), .int .i64 (y : Int), .pointer (some ⟨b6, 0, none⟩), .pointer (some ⟨b5, 0, none⟩)] W fun e w' => e = .returned (.int .i64 (cmpT (trn T x) (trn T y))) ∧ ∃ q, w' = W.drewN q := by
  have h1 := reads_trn (c := c) h hT hx
  have h2 := reads_trn (c := c) h hT hy
  have cb := fun q => bytes_Compare (some (ad.add x)) (some (ad.add y)) n n (c - x) (c - y) _ _ (W.drewN q) (h1.drewN q) (h2.drewN q)
  generalize cmpT (trn T x) (trn T y) = v at *
  have x0 : ¬ c = x := by omega
  have y0 : ¬ c = y := by omega
  have e1 : (x : Int) + (n : Int) ≤ (c : Int) := by omega
  have e2 : (y : Int) + (n : Int) ≤ (c : Int) := by omega
  have e3 : ((x : Int) + (n : Int)).toNat - x = n := by omega
  have e4 : ((y : Int) + (n : Int)).toNat - y = n := by omega
  have i1 : (x : Int) ≤ (x : Int) + (n : Int) := by omega
  have i2 : (y : Int) ≤ (y : Int) + (n : Int) := by omega
  have CB := Lib.hid cb
  clear h h1 h2 hT cb
  go_enter Try.func39, Try.ntmps39
  go_wp2
  go_quiet ((go_at_call 40; exact quietR (CB.out _)))
  go_wp2
  go_ret
  exact ⟨rfl, _, rfl⟩
end Go.Proofs.Ytdidahafbcddeaa

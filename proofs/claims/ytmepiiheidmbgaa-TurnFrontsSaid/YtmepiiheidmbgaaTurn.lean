/-
  turn.list, turn.front, turn.Unfront.
-/
import Derived.Test.YtmepiiheidmbgaaMtf
import Derived.Test.YtmepiiheidmbgaaStore
import Derived.Test.YtmepiiheidmbgaaAppz
import Derived.Test.YtmepiiheidmbgaaProg
import Derived.Laws.CopyOwn
set_option linter.unusedVariables false
namespace Go.Proofs.Ytmepiiheidmbgaa
open Go.RowKit

theorem el_u8T : Elem Try.prog 39 5 (.int .u8 0) 1 := Elem.mk' Try.underlying39 (by kernel_rfl) rfl
theorem el_intT : Elem Try.prog 50 3 (.int .i64 0) 8 := Elem.mk' Try.underlying50 (by kernel_rfl) rfl
theorem grown_setCell (w : World) (p : Addr) (u : Value) : w.grownBy (w.setCell p u) (some p.block) := by
  have hb := (Below.refl 0 w).setCell (Nat.zero_le p.block) u
  exact ⟨hb.os, hb.tape, hb.output, hb.size, fun k hk hne => Below.heap_setCell w p u k (fun e => hne (by rw [e]))⟩
theorem grown_of_drew {w w' : World} {row : Option Nat} (h : w.drew.grownBy w' row) : w.grownBy w' row := ⟨h.os, h.tape, h.output, h.size, h.block⟩
/-- copy into a row of the call's own -/
theorem run_copy_put {P : Program} {w : World} (ty dT sT elem : TypeId) (hu : P.underlying dT = some (.slice elem)) (hsz : (P.info? elem).map (·.size) = some 1)
    (g off dLen dCap sLen sCap : Nat) (ad : Addr)
    {base n c : Nat} {T : TypeId} {xs : List Value} (hown : Own w base T (.slice (some ⟨g, 0, none⟩) n c) xs) (cs : List Value) (hn : cs.length = Nat.min sLen dLen)
    (hsrc : ∀ j v, cs[j]? = some v → w.cell? (ad.add j) = some v) (hfit : off + cs.length ≤ n) (h1 : ∀ v ∈ cs, v.oneCell' = true) :
    ∃ w', (Builtin.copy_ #[dT, sT] ty #[.slice (some ⟨g, off, none⟩) dLen dCap, .slice (some ad) sLen sCap]).run P w = .ok (goInt cs.length) w' ∧ Own w' base T (.slice (some ⟨g, 0, none⟩) n c) (splice xs off cs) ∧ w.grownBy w' (some g) := by
  by_cases h0 : cs.length = 0
  · obtain rfl : cs = [] := List.eq_nil_of_length_eq_zero h0
    have hrun := run_copy_none (P := P) w dT sT ty elem (some ⟨g, off, none⟩) (some ad) dLen dCap sLen sCap hu hsz (by simpa using hn.symm)
    exact ⟨w, hrun, by simpa [splice] using hown, World.grownBy.refl _ _⟩
  · have hlen := hown.len
    rcases hown.2 with ⟨e, _⟩ | ⟨g', cap', cur, e, hbase, hb, h2, h3, h4, h5⟩
    · simp at e
    · injection e with e1 e2 e3
      injection e1 with e1
      injection e1 with e1
      subst e1 e3
      rw [Nat.mul_one] at h4 h5
      have hrun := run_copy_row (P := P) w dT sT ty elem g off dLen dCap ad sLen sCap cur T cs hu hsz hb hn hsrc (by omega) h1
      have hsp : List.take off cur.toList ++ cs ++ List.drop (off + cs.length) cur.toList = splice cur.toList off cs := by unfold splice; rw [List.append_assoc]
      rw [hsp] at hrun
      refine ⟨_, hrun, ?_, ⟨rfl, rfl, rfl, by simp [World.setRow], fun k hk hne => setRow_other w g k _ (fun e => hne (by rw [e]))⟩⟩
      refine ⟨(Nat.mul_one _).symm, .inr ⟨g, c, (splice cur.toList off cs).toArray, ?_, hbase, ?_, ?_, h3, ?_, ?_⟩⟩
      · rw [length_splice _ _ _ (by omega), hlen]
      · have := setRow_heap w g cur (splice cur.toList off cs).toArray T _ hb
        exact this
      · rw [length_splice _ _ _ (by omega), hlen]; omega
      · rw [Nat.mul_one, List.size_toArray, length_splice _ _ _ (by simp; omega)]; simpa using h4
      · rw [Nat.mul_one, length_splice _ _ _ (by omega), hlen]
        rw [hlen] at h5
        rw [← h5]
        unfold splice
        apply List.ext_getElem?
        intro j
        simp only [List.getElem?_take, List.getElem?_append, List.length_take, List.getElem?_drop, Array.length_toList]
        by_cases hj : j < n
        · rw [if_pos hj]
          have e1 : min off cur.size = off := by omega
          have e2 : min off (min n cur.size) = off := by omega
          rw [e1, e2]
          by_cases j1 : j < off
          · simp only [j1, if_true, hj]
          · simp only [j1, if_false]
            by_cases j2 : j - off < cs.length
            · simp only [j2, if_true]
            · simp only [j2, if_false]
              rw [if_pos (by omega)]
        · rw [if_neg hj]
          rw [if_neg (by omega), if_neg (by omega), if_neg (by omega)]

set_option maxHeartbeats 800000 in
theorem turn_list (w : World) : Calls Try.prog 61 #[] w (RetS w 5 (vn .u8 (List.range 256))) := by
  obtain ⟨N, hN⟩ : ∃ N, N = 256 := ⟨_, rfl⟩
  have hNi : (256 : Int) = (N : Int) := by omega
  have hN1 : N ≤ 256 := by omega
  have hN2 : 256 ≤ N := by omega
  rw [← hN]
  clear hN
  go_enter Try.func61, Try.ntmps61
  clear hNi
  go_wp2
  go_loopw [1, 3] (fun v i wr => ∃ k : Nat, k ≤ N ∧ i = .int .i64 k ∧ Own wr w.heap.size 5 v (vn .u8 (List.range k)) ∧ Below w.heap.size w wr) (fun _ i _ => N - (intOf i).toNat)
  case atStart => exact ⟨0, by omega, rfl, Own.nil _ _ _, Below.refl _ _⟩
  case round =>
    obtain ⟨k, hk, rfl, hown, hb⟩ := hrel
    have hB := hb.size
    have hl : (vn .u8 (List.range k)).length = k := by simp
    by_cases hlt : k < N
    · have i1 : (k : Int) < 256 := by omega
      have i2 : (k : Int) % 256 = (k : Int) := by omega
      have HN : Hid (vn .u8 (List.range k) ++ [Value.int .u8 (k : Int)] = vn .u8 (List.range (k + 1))) := by unfold Hid; rw [List.range_succ]; simp [vn]
      have HL := Lib.hid hl
      clear hl
      go_wp2_with (at_builtin; refine app1 el_u8T rfl _ _ rfl rfl hown (.int .u8 (k : Int)) _ rfl rfl (by rw [HL.out]; unfold maxLen; omega) (by rw [HL.out]; omega) hB ?_; intro v1 w1 ho1 hb1 _ _)
      go_roundw
      case rel => exact ⟨k + 1, by omega, by go_num, by rw [← HN.out]; exact ho1, hb.trans hb1⟩
      case measure => simp only [intOf]; omega
    · obtain rfl : k = N := by omega
      obtain ⟨A2, c2, e⟩ := hown.form
      rw [hl] at e
      subst e
      have i1 : ¬ (k : Int) < 256 := by omega
      clear hl
      go_wp2
      go_ret
      exact ⟨A2, k, c2, rfl, hown, hb⟩
theorem frontL_splice (l : List Nat) (k x : Nat) (hk : l[k]? = some x) : (splice (vn .u8 l) 1 ((vn .u8 l).take k)).set 0 (.int .u8 (x : Int)) = vn .u8 (frontL l k) := by
  obtain ⟨hlt, e⟩ := List.getElem?_eq_some_iff.1 hk
  unfold splice frontL vn
  rw [List.getD_eq_getElem?_getD, hk]
  cases l with
  | nil => simp at hlt
  | cons a t =>
    have : (List.take k (List.map (fun x : Nat => Value.int .u8 (x : Int)) (a :: t))).length = k := by rw [List.length_take, List.length_map]; simp at hlt ⊢; omega
    rw [this]
    simp [Nat.add_comm 1 k]
set_option maxRecDepth 100000 in
set_option maxHeartbeats 400000 in
theorem turn_front (ad : Addr) (N c k : Nat) (l : List Nat) {base : Nat} (w : World) (hown : Own w base 5 (.slice (some ad) N c) (vn .u8 l)) (hk : k < N) (h2 : 2 ≤ N) (hN : N ≤ 1000) (hbase : base ≤ w.heap.size) :
    Calls Try.prog 62 #[.slice (some ad) N c, .int .i64 (k : Int)] w fun e w' => e = .returned (.tuple #[]) ∧ Own w' base 5 (.slice (some ad) N c) (vn .u8 (frontL l k)) ∧ w.grownBy w' (some ad.block) := by
  have hcap := hown.capLe'
  have H := Lib.hid hown.reads.nat_len
  obtain ⟨g, rfl, hg1, hg2⟩ := hown.addr
  have hkl : k < l.length := by rw [H.out]; exact hk
  obtain ⟨x, hx⟩ : ∃ x, l[k]? = some x := ⟨l[k], List.getElem?_eq_getElem hkl⟩
  have hc : w.cell? ((⟨g, 0, none⟩ : Addr).add k) = some (.int .u8 (x : Int)) := hown.cell (by rw [List.getElem?_map, hx]; rfl)
  rw [add_row] at hc
  have HS := Lib.hid (frontL_splice l k x hx)
  have i1 : (k : Int) < (N : Int) := by omega
  have i0 : (0 : Int) ≤ (k : Int) := by omega
  have i2 : (k : Int) + 1 ≤ (c : Int) := by omega
  have i3 : (k : Int) ≤ (c : Int) := by omega
  have i4 : ¬ c = 1 := by omega
  have i5 : ¬ c = 0 := by omega
  have i6 : (1 : Int) ≤ (k : Int) + 1 := by omega
  have i7 : ((k : Int) + 1).toNat = k + 1 := by omega
  have i8 : 1 ≤ c := by omega
  have i9 : k + 1 ≤ c := by omega
  have i10 : k ≤ c := by omega
  have i11 : IntKind.i64.wrap ((k : Int) + 1) = (k : Int) + 1 := IntWalk.i64_in _ (by omega)
  have i12 : (1 : Int) ≤ max ((k : Int) + 1) 0 := by omega
  have i13 : (0 : Int) ≤ (k : Int) + 1 := by omega
  have hlt : (vn .u8 l).length = N := by simp [H.out]
  have hct : ((vn .u8 l).take k).length = k := by rw [List.length_take, hlt]; omega
  have hcell : ∀ j v, ((vn .u8 l).take k)[j]? = some v → w.cell? ((⟨g, 0, none⟩ : Addr).add j) = some v := by
    intro j v hv
    have hj : j < k := by have := (List.getElem?_eq_some_iff.1 hv).1; omega
    rw [List.getElem?_take_of_lt hj] at hv
    exact hown.cell hv
  have hone : ∀ v ∈ (vn .u8 l).take k, v.oneCell' = true := by
    intro v hv
    obtain ⟨y, _, rfl⟩ := List.mem_map.1 (List.mem_of_mem_take hv)
    rfl
  have HCT := Lib.hid hct
  have HC := Lib.hid hcell
  clear hx hct hlt hcell
  generalize hcs : (vn .u8 l).take k = cs at *
  generalize vn .u8 l = xs at *
  clear hcs
  obtain ⟨w1, hcopy, ho1, hg1⟩ := run_copy_put (P := Try.prog) (w := w.drew) 3 39 39 5 Try.underlying39 (by kernel_rfl) g 1 k (c - 1) k c ⟨g, 0, none⟩ hown.drew cs (by rw [HCT.out]; simp) (fun j v hv => HC.out j v hv) (by rw [HCT.out]; omega) hone
  have hg1 := grown_of_drew hg1
  have hset := ho1.set 0 (.int .u8 (x : Int))
  rw [HS.out] at hset
  have hfz := ho1.frozenAt 0
  have hc0 : (⟨g, 0, none⟩ : Addr).add 0 = ⟨g, 0, none⟩ := rfl
  rw [hc0] at hset hfz
  obtain ⟨y0, hy0⟩ : ∃ y, w1.cell? ⟨g, 0, none⟩ = some y := by
    have h1 := ho1.len
    have h2 : 0 < (splice xs 1 cs).length := by omega
    exact ⟨_, by have := ho1.cell (List.getElem?_eq_getElem h2); rwa [hc0] at this⟩
  have hN0 : (0 : Int) < (N : Int) := by omega
  rw [HCT.out] at hcopy
  clear hc0
  go_enter Try.func62, Try.ntmps62
  go_wp2
  go_region
  go_wp2
  go_end0
  exact ⟨rfl, hset, hg1.trans (grown_setCell w1 ⟨g, 0, none⟩ _)⟩
end Go.Proofs.Ytmepiiheidmbgaa

/-
  The laws HuffLens and HuffCosts.
-/
import Derived.Test.YtdidahafbcddeaaHufw
import Derived.Test.YtdidahafbcddeaaWeights
set_option linter.unusedVariables false
namespace Go.Proofs.Ytdidahafbcddeaa
open Go.RowKit

def HufLP (w : World) (n : Nat) (ws : List Nat) (e : Ending) (w' : World) : Prop := ∃ (A1 : Option Addr) (L : List Nat), e = .returned (.slice A1 n n) ∧ Own w' w.heap.size 3 (.slice A1 n n) (vn .i64 L) ∧ HufE ws L ∧ Below w.heap.size w w'
theorem lens_at (A : Option Addr) (n c : Nat) (ws : List Nat) (w : World) (m : Nat) (h : Reads w w.heap.size A n (vn .i64 ws)) (h8 : n ≤ 8) (hw : ∀ x ∈ ws, x ≤ 1048576) : Calls Try.prog 34 #[.slice A n c] (w.drewN m) (HufLP w n ws) :=
  (huff_lens A n c ws (w.drewN m) (h.drewN m) h8 hw).mono fun e w' ⟨L, he, ho, hE, hb⟩ => ⟨_, L, he, ho, hE, (below_drewN (Below.refl _ _) m).trans hb⟩
def HufCP (w : World) (n : Nat) (ws : List Nat) (e : Ending) (w' : World) : Prop := ∃ L : List Nat, e = .returned (.tuple #[.int .i64 ((costTo ws L n : Nat) : Int), .int .i64 0]) ∧ HufE ws L ∧ Below w.heap.size w w'
def HufLT (w : World) (n : Nat) (ws : List Nat) (e : Ending) (w' : World) : Prop := ∃ (A1 : Option Addr) (L : List Nat), e = .returned (.tuple #[.slice A1 n n, .int .i64 0]) ∧ Own w' w.heap.size 3 (.slice A1 n n) (vn .i64 L) ∧ HufE ws L ∧ Below w.heap.size w w'
section
variable (A : Option Addr) (n c : Nat) (l : List Int) (ws : List Nat) (w : World) (h : Reads w w.heap.size A n (vi .i64 l)) (h0 : wtsErr l = 0) (hv : vi .i64 l = vn .i64 ws) (h8 : n ≤ 8) (hw : ∀ x ∈ ws, x ≤ 1048576)
include h h0 hv h8 hw
set_option maxHeartbeats 800000 in
theorem huff_Lens : Calls Try.prog 12 #[.slice A n c] w (HufLT w n ws) := by
  have ck := huff_Check A n c l 0 w h (by unfold maxLen; omega) h0
  have cl := fun m => lens_at A n c ws w m (by rw [← hv]; exact h) h8 hw
  clear h h0 hv hw
  go_enter Try.func12, Try.ntmps12
  go_wp2_with (first
    | (go_at_call 33; refine ck.mono ?_; clear ck; rintro e w' ⟨rfl, m, rfl⟩)
    | (go_at_call 34; refine (cl _).mono ?_; clear cl; rintro e w2 ⟨A1, L, rfl, ho, hE, hb⟩))
  go_ret2
  exact ⟨A1, L, rfl, ho, hE, hb⟩
set_option maxHeartbeats 800000 in
theorem huff_Cost : Calls Try.prog 17 #[.slice A n c] w (HufCP w n ws) := by
  have ck := huff_Check A n c l 0 w h (by unfold maxLen; omega) h0
  have cl := fun m => lens_at A n c ws w m (by rw [← hv]; exact h) h8 hw
  have hws : ws.length = n := by rw [hv] at h; exact h.nat_len
  have HR : Hid (Reads w w.heap.size A n (vn .i64 ws)) := by rw [← hv]; exact h
  have HW := Lib.hid hw
  have HWS := Lib.hid hws
  clear h h0 hv hw hws
  go_enter Try.func17, Try.ntmps17
  go_wp2_with (first
    | (go_at_call 33; refine ck.mono ?_; clear ck; rintro e w' ⟨rfl, m, rfl⟩)
    | (go_at_call 34; refine (cl _).mono ?_; clear cl; rintro e w2 ⟨A1, L, rfl, ho, hE, hb⟩
       have cc := huff_Costs A A1 n c n ws L w2 (HR.out.below hb) ho.reads h8 HW.out (fun i => hE.bd (by rw [HWS.out]; exact h8) i)
       have HE := Lib.hid hE; have HB := Lib.hid hb
       clear ho hE hb)
    | (go_at_call 36; refine cc.mono ?_; clear cc; rintro e w3 ⟨rfl, rfl⟩))
  go_ret2
  exact ⟨L, rfl, HE.out, HB.out⟩
end
section
variable (A : Option Addr) (n c : Nat) (l : List Int) (z : Int) (w : World) (h : Reads w w.heap.size A n (vi .i64 l)) (hn : n ≤ maxLen) (h0 : Hid (wtsErr l = z)) (hz : (z != 0) = true)
include h hn h0 hz
set_option maxHeartbeats 800000 in
theorem huff_Lens_err : Calls Try.prog 12 #[.slice A n c] w (RetQ w (.tuple #[.slice none 0 0, .int .i64 z])) := by
  have ck := huff_Check A n c l z w h hn h0
  clear h h0
  go_enter Try.func12, Try.ntmps12
  go_wp2_with (go_at_call 33; refine ck.mono ?_; clear ck; rintro e w' ⟨rfl, m, rfl⟩)
  go_ret2
  exact ⟨rfl, m, rfl⟩
set_option maxHeartbeats 800000 in
theorem huff_Cost_err : Calls Try.prog 17 #[.slice A n c] w (RetQ w (.tuple #[.int .i64 0, .int .i64 z])) := by
  have ck := huff_Check A n c l z w h hn h0
  clear h h0
  go_enter Try.func17, Try.ntmps17
  go_wp2_with (go_at_call 33; refine ck.mono ?_; clear ck; rintro e w' ⟨rfl, m, rfl⟩)
  go_ret2
  exact ⟨rfl, m, rfl⟩
end
set_option maxHeartbeats 800000 in
theorem HuffCosts_walk (A : Option Addr) (n c : Nat) (l : List Int) (w : World) (h : Reads w w.heap.size A n (vi .i64 l)) (_ : ∀ z ∈ l, (Lit.int .i64 z).wf = true) (hr : n * 8 ≤ reachBytes) :
    Calls Try.prog 5 #[.slice A n c] w (LawTrue w) := by
  have hml : n ≤ maxLen := by unfold reachBytes at hr; unfold maxLen; omega
  by_cases h0 : wtsErr l = 0
  · obtain ⟨h8, ws, hv, hl, hw⟩ := wts_ok h0
    rw [h.int_len] at h8 hl
    have c1 := huff_Cost A n c l ws w h h0 hv h8 hw
    have c2 := fun (w' : World) (hb : Below w.heap.size w w') => ref_WeightsCheck A n c l 0 w' (h.below hb) hml h0
    have c3 := fun (w' : World) (hb : Below w.heap.size w w') => ref_Huffman A n c ws w' (by rw [← hv]; exact (h.below hb).more hb.size) h8 hw
    have HL := Lib.hid hl
    clear h0 hv hw hl h
    go_enter Try.func5, Try.ntmps5
    go_wp2_with (first
      | (go_at_call 17; refine c1.mono ?_; clear c1; rintro e w1 ⟨L, rfl, hE, hb1⟩; have HE := Lib.hid hE; clear hE)
      | (go_at_call 13; refine (c2 _ hb1).mono ?_; clear c2; rintro e w' ⟨rfl, rfl⟩)
      | (go_at_call 16; refine (c3 _ hb1).mono ?_; clear c3; rintro e w2 ⟨r, rfl, hC, hb2⟩))
    go_ret
    have e : costTo ws L n = r := by
      have := HE.out.same hC
      unfold costN at this
      rw [HL.out] at this
      exact this
    exact ⟨by rw [e]; simp, hb1.trans (hb2.mono hb1.size)⟩
  · have hz : (wtsErr l != 0) = true := by simpa using h0
    have c1 := huff_Cost_err A n c l (wtsErr l) w h hml rfl hz
    have c2 := fun m => ref_WeightsCheck A n c l (wtsErr l) (w.drewN m) (h.drewN m) hml rfl
    clear h0
    generalize wtsErr l = z at *
    go_enter Try.func5, Try.ntmps5
    go_wp2_with (first | (go_at_call 17; refine c1.mono ?_; rintro e w1 ⟨rfl, m, rfl⟩) | (go_at_call 13; refine (c2 _).mono ?_; rintro e w' ⟨rfl, rfl⟩))
    go_ret
    exact .drewN _ _
set_option maxHeartbeats 1600000 in
theorem HuffLens_walk (A : Option Addr) (n c : Nat) (l : List Int) (w : World) (h : Reads w w.heap.size A n (vi .i64 l)) (_ : ∀ z ∈ l, (Lit.int .i64 z).wf = true) (hr : n * 8 ≤ reachBytes) :
    Calls Try.prog 4 #[.slice A n c] w (LawTrue w) := by
  have hml : n ≤ maxLen := by unfold reachBytes at hr; unfold maxLen; omega
  by_cases h0 : wtsErr l = 0
  · obtain ⟨h8, ws, hv, hl, hw⟩ := wts_ok h0
    rw [h.int_len] at h8 hl
    have c1 := huff_Lens A n c l ws w h h0 hv h8 hw
    have c2 := fun (w' : World) (hb : Below w.heap.size w w') => ref_WeightsCheck A n c l 0 w' (h.below hb) hml h0
    have c3 := fun (w' : World) (hb : Below w.heap.size w w') => ref_Huffman A n c ws w' (by rw [← hv]; exact (h.below hb).more hb.size) h8 hw
    have HR : Hid (Reads w w.heap.size A n (vn .i64 ws)) := by rw [← hv]; exact h
    have HW := Lib.hid hw
    have HL := Lib.hid hl
    have t0 : ((n : Int) != (n : Int)) = false := by simp
    clear h0 hv hw hl h
    go_enter Try.func4, Try.ntmps4
    go_wp2_with (first
      | (go_at_call 12; refine c1.mono ?_; clear c1; rintro e w1 ⟨A1, L, rfl, ho, hE, hb1⟩; have HE := Lib.hid hE; have HO := Lib.hid ho; clear hE ho)
      | (go_at_call 13; refine (c2 _ hb1).mono ?_; clear c2; rintro e w' ⟨rfl, rfl⟩))
    go_loop [36] (fun iv => ∃ k : Nat, k ≤ n ∧ iv = .int .i64 (k : Int)) (fun iv => n - (intOf iv).toNat)
    case atStart => exact ⟨0, Nat.zero_le _, rfl⟩
    case round =>
      obtain ⟨k, hk, rfl⟩ := hrel
      by_cases hlt : k < n
      · obtain ⟨ad, x, rfl, _, hx, hc⟩ := HO.out.reads.nat_at hlt
        have hx8 := HE.out.lt k (by rw [HL.out]; exact hlt)
        rw [show L.getD k 0 = x by simp [List.getD, hx], HL.out] at hx8
        have i0 : (0 : Int) ≤ (k : Int) := by omega
        have i1 : (k : Int) < (n : Int) := by omega
        have i2 : ¬ (n : Int) < (x : Int) := by omega
        have i3 : ¬ (x : Int) < 0 := by omega
        clear hx
        go_wp2
        go_round
        case rel => exact ⟨k + 1, by omega, by go_num⟩
        case measure => simp [intOf] <;> omega
      · obtain rfl : n = k := by omega
        have hk1 := HE.out.kraft
        have hln := HE.out.len
        rw [HL.out] at hk1
        have hrd := HO.out.reads
        rw [vn_vi] at hrd
        obtain ⟨q, hq⟩ : ∃ q, ((List.range n).map fun s => 2 ^ (8 - L.getD s 0)).sum = q := ⟨_, rfl⟩
        rw [hq] at hk1
        have hkq : kraftOf (L.map fun x : Nat => (x : Int)) = (q : Int) := by rw [kraft_is, hln, HL.out, hq]
        have ck := ref_Kraft A1 n n _ (q : Int) w1 hrd (HE.out.ok (by rw [HL.out]; exact h8)) hkq
        have cc := ref_CostsH A A1 n c n ws L w1 (HR.out.below hb1) HO.out.reads h8 HW.out (fun i => HE.out.bd (by rw [HL.out]; exact h8) i)
        have i4 : (q : Int) ≤ 256 := by omega
        have cc3 := fun m => c3 (w1.drewN m) (below_drewN hb1 m)
        clear hrd hq hkq hln hk1 c3
        go_wp2_with (first
          | (go_at_call 14; refine ck.mono ?_; clear ck; rintro e w' ⟨rfl, rfl⟩)
          | (go_at_call 15; refine cc.mono ?_; clear cc; rintro e w' ⟨rfl, m, rfl⟩)
          | (go_at_call 16; refine (cc3 _).mono ?_; clear cc3; rintro e w2 ⟨r, rfl, hC, hb2⟩))
        go_ret
        have e : costTo ws L n = r := by
          have := HE.out.same hC
          unfold costN at this
          rw [HL.out] at this
          exact this
        exact ⟨by rw [e]; simp, (below_drewN hb1 m).trans (hb2.mono hb1.size)⟩
  · have hz : (wtsErr l != 0) = true := by simpa using h0
    have c1 := huff_Lens_err A n c l (wtsErr l) w h hml rfl hz
    have c2 := fun m => ref_WeightsCheck A n c l (wtsErr l) (w.drewN m) (h.drewN m) hml rfl
    clear h0
    generalize wtsErr l = z at *
    go_enter Try.func4, Try.ntmps4
    go_wp2_with (first | (go_at_call 12; refine c1.mono ?_; rintro e w1 ⟨rfl, m, rfl⟩) | (go_at_call 13; refine (c2 _).mono ?_; rintro e w' ⟨rfl, rfl⟩))
    go_ret
    exact .drewN _ _
end Go.Proofs.Ytdidahafbcddeaa

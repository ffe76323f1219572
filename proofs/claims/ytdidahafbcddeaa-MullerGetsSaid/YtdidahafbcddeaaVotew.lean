/-
  muller.vote walked.
-/
import Derived.Test.YtdidahafbcddeaaVote
set_option linter.unusedVariables false
namespace Go.Proofs.Ytdidahafbcddeaa
open Go.RowKit
open Go.Maps (Keyed)

def keyU (p x : Nat) : Nat := x - (x &&& p)
def parV (l : List Bool) (p : Nat) : Nat → Int → Bool
  | 0, _ => false
  | k + 1, a => if a = (keyU p k : Int) then parV l p k a != l.getD k false else parV l p k a
def ksV (p k : Nat) : List Int := ((List.range k).filter fun q => decide (q &&& p = 0)).map fun q : Nat => (q : Int)
def voteB (l : List Bool) (p n : Nat) : Bool := decide ((ksV p n).length < 2 * (ksV p n).countP (parV l p n))
theorem ksV_next : ∀ p k : Fin 16, (if (keyU p.val k.val : Int) ∈ ksV p.val k.val then ksV p.val k.val else ksV p.val k.val ++ [(keyU p.val k.val : Int)]) = ksV p.val (k.val + 1) := by decide +kernel
theorem andNot_16 : ∀ x p : Fin 16, bits .andNot .i64 (x.val : Int) (p.val : Int) = (keyU p.val x.val : Int) := by decide +kernel
theorem keyU_le (p x : Nat) : keyU p x ≤ x := Nat.sub_le _ _
theorem ksV_len (p k : Nat) : (ksV p k).length ≤ k := by unfold ksV; rw [List.length_map]; exact filt_len _ k
set_option maxRecDepth 100000 in
set_option maxHeartbeats 1600000 in
theorem mul_vote (A : Option Addr) (n c p : Nat) (l : List Bool) (w : World) (h : Reads w w.heap.size A n (vb l)) (hn : n ≤ 16) (hp : p < 16) (b : Bool) (hb : Hid (voteB l p n = b)) :
    Calls Try.prog 27 #[.slice A n c, .int .i64 (p : Int)] w (RetB w (.bool b)) := by
  have hmk := @run_makeMap Try.prog
  have hm0 := MapL.made w Try.prog 3 4
  have HM0 := Lib.hid hm0
  have hb0 : Below w.heap.size w (w.alloc (.map #[] 0)) := (Below.refl _ _).alloc (Nat.le_refl _) _
  have HB0 := Lib.hid hb0
  clear hm0 hb0
  go_enter Try.func27, Try.ntmps27
  go_wp2
  clear hmk
  go_loopw [14] (fun iv wr => ∃ k : Nat, k ≤ n ∧ iv = .int .i64 (k : Int) ∧ MapL Try.prog 3 4 wr w.heap.size k (parV l p k) (ksV p k) ∧ Below w.heap.size w wr) (fun iv _ => n - (intOf iv).toNat)
  case atStart => exact ⟨0, by omega, rfl, HM0.out, HB0.out⟩
  case round =>
    obtain ⟨k, hk, rfl, hmap, hbel⟩ := hrel
    clear HM0 HB0
    obtain ⟨wo, rfl⟩ : ∃ x, x = wr := ⟨_, rfl⟩
    by_cases hlt : k < n
    · obtain ⟨ad, x, rfl, hadb, hx, hcx⟩ := (h.below hbel).bool_at hlt
      have i1 : (k : Int) < (n : Int) := by omega
      obtain ⟨q, hq⟩ : ∃ q, keyU p k = q := ⟨_, rfl⟩
      have eA := andNot_16 ⟨k, by omega⟩ ⟨p, hp⟩
      have eK := ksV_next ⟨p, hp⟩ ⟨k, by omega⟩
      simp only [hq] at eA eK
      have hqk : q ≤ k := by rw [← hq]; exact keyU_le _ _
      have hwf : (Lit.int .i64 (q : Int)).wf = true := wf_small16 q (by omega)
      obtain ⟨y, hy⟩ : ∃ y, parV l p k (q : Int) = y := ⟨_, rfl⟩
      obtain ⟨v, hv⟩ : ∃ v, (!(y == x)) = v := ⟨_, rfl⟩
      have hvx : v = (y != x) := by rw [← hv]; cases y <;> cases x <;> rfl
      have HVX := Lib.hid hvx
      clear hvx
      have hlook := hmap.look (t := 73) Try.underlying73 Try.underlying3 Try.underlying4 (by rfl) (q : Int) hwf
      rw [hy] at hlook
      obtain ⟨w', hput, hmap', hg⟩ := hmap.put (t := 73) Try.underlying73 Try.underlying3 Try.underlying4 (by unfold maxLen; omega) (q : Int) hwf v
      have hf : (fun z : Int => if z = (q : Int) then v else parV l p k z) = parV l p (k + 1) := by
        funext z
        rw [parV, hq]
        by_cases hz : z = (q : Int)
        · rw [if_pos hz, if_pos hz, hz, hy, List.getD_eq_getElem?_getD, hx]
          exact HVX.out
        · rw [if_neg hz, if_neg hz]
      rw [hf, eK] at hmap'
      have hb' : Below w.heap.size w w' := hbel.grown hg hbel.size (fun j hj => by injection hj with hj; omega)
      clear hx hq hy hf eK hwf hqk hg hmap hadb
      go_wp2
      go_roundw
      case rel => exact ⟨k + 1, by omega, by go_num, hmap', hb'⟩
      case measure => simp [intOf] <;> omega
    · obtain rfl : n = k := by omega
      have hcl := ksV_len p n
      obtain ⟨ks, hks⟩ : ∃ ks, ksV p n = ks := ⟨_, rfl⟩
      obtain ⟨f, hf⟩ : ∃ f, parV l p n = f := ⟨_, rfl⟩
      have HB : Hid (decide (ks.length < 2 * ks.countP f) = b) := by unfold Hid; rw [← hb.out, voteB, hks, hf]
      rw [hks] at hcl
      rw [hks, hf] at hmap
      have HBEL := Lib.hid hbel
      clear hks hf hb hbel
      go_wp2_with (at_range; refine wpList_rangeL _ rfl _ rfl Try.underlying73 Try.underlying3 rfl hmap ?_; intro w0 cnt0 hrg0 hg0 hs0)
      go_frame
      go_loopw [8] (fun sv wr => ∃ (vs : List Int) (cnt : Nat), RangeL Try.prog 3 4 wr w.heap.size wo.heap.size n f ks vs cnt ∧ sv = .int .i64 ((vs.countP f : Nat) : Int) ∧ Below w.heap.size w wr ∧ vs.length ≤ 16) (fun _ wr => wr.rangeLeft w.heap.size wo.heap.size)
      case atStart => exact ⟨[], cnt0, hrg0, rfl, HBEL.out.grown hg0 HBEL.out.size (fun j hj => by cases hj), by simp⟩
      case round =>
        obtain ⟨vs, cnt, hrg, rfl, hbel, hvl⟩ := hrel
        have hvc : vs.countP f ≤ vs.length := List.countP_le_length
        go_wp2_with (first
          | (at_next; refine wpList_nextL _ rfl _ rfl Try.underlying3 Try.underlying4 rfl hrg ?_ ?_)
          | go_in)
        · intro hpm
          have hlen := fun ty => hrg.len (t := 73) Try.underlying73 ty
          have hcp := hpm.countP_eq f
          rw [hcp] at hvc ⊢
          have h2 : ks.countP f ≤ ks.length := List.countP_le_length
          obtain ⟨yes, hyes⟩ : ∃ yes, ks.countP f = yes := ⟨_, rfl⟩
          obtain ⟨all, hall⟩ : ∃ all, ks.length = all := ⟨_, rfl⟩
          rw [hyes] at h2 hvc ⊢
          rw [hall] at hlen hcl h2
          rw [hyes, hall] at HB
          clear hcp hyes hall hpm
          go_wp2
          go_ret
          refine ⟨ret_b ?_, hbel⟩
          rw [← HB.out]
          exact decide_eq_decide.2 ⟨fun h => by omega, fun h => by omega⟩
        · intro x w1 cnt1 hrg1 hlt1 hg1 hs1 hen
          have hb1 : Below w.heap.size w w1 := hbel.grown hg1 hbel.size (fun j hj => by injection hj with hj; have := HBEL.out.size; omega)
          have hv2 : (vs ++ [x]).length ≤ 16 := Nat.le_trans hrg1.vlen (Nat.le_trans hcl hn)
          obtain ⟨y, hy⟩ : ∃ y, f x = y := ⟨_, rfl⟩
          rw [hy] at hen ⊢
          have HC : Hid ((vs ++ [x]).countP f = vs.countP f + if y then 1 else 0) := by unfold Hid; rw [List.countP_append, List.countP_singleton, hy]
          clear hy
          cases y
          · go_wp2
            go_roundw
            case rel => exact ⟨_, cnt1, hrg1, by rw [HC.out]; rfl, hb1, hv2⟩
            case measure => rw [hrg1.left_eq, hrg.left_eq]; exact hlt1
          · go_wp2
            go_roundw
            case rel => exact ⟨_, cnt1, hrg1, by rw [HC.out]; go_num, hb1, hv2⟩
            case measure => rw [hrg1.left_eq, hrg.left_eq]; exact hlt1
end Go.Proofs.Ytdidahafbcddeaa

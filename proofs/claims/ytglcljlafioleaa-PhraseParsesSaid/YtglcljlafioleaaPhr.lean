/-
  quipuref.place; an append of a struct as a step.
-/
import Derived.Test.YtglcljlafioleaaPhp
import Derived.Test.YtglcljlafioleaaOwnr
import Derived.Test.YtglcljlafioleaaBytesEq
import Derived.Test.YtglcljlafioleaaStep
import Derived.Deep.RegionHeld3
set_option linter.unusedVariables false
namespace Go.Proofs.Ytglcljlafioleaa
open Go.RowKit

section
variable {P : Program} {w w' : World} {base k : Nat} {E T : TypeId} {v : Value} {xss : List (List Value)} {bytes : Nat}
theorem run_app1K (el : ElemK P T E k bytes) (ty : TypeId) (hown : OwnK w base E k v xss) (cs : Array Value) (E' : TypeId) (hk : cs.size = k) (h1 : ∀ u ∈ cs.toList, u.oneCell' = true)
    (h63 : xss.length + 1 ≤ maxLen) (hbytes : (xss.length + 1) * bytes ≤ 140737488355328) (hbase : base ≤ w.heap.size) :
    ∃ v' w', (Builtin.append_ #[T, T] ty #[v, .slice (some ⟨w.heap.size, 0, none⟩) 1 1]).run P (w.alloc (.cells cs E')) = .ok v' w' ∧ OwnK w' base E k v' (xss ++ [cs.toList]) ∧ w.grownBy w' v.ownBlock ∧ (v'.ownBlock = v.ownBlock ∨ v'.ownBlock = some (w.heap.size + 1)) := by
  obtain ⟨i, z, hi, hz, hsize, hby, hzs⟩ := el.info
  obtain ⟨v', w', hrun, hown', hgrow, _, hat⟩ := run_append_own_at (P := P) (w.alloc (.cells cs E')) base T ty E i z k bytes el.under hi hz hsize hby hzs el.pos v xss.length xss.flatten (World.ownsRow.alloc hown.2 _) ⟨w.heap.size, 0, none⟩ 1 1 cs.toList (by simpa using hk)
    (fun j u hu => by
      have hh : (w.alloc (.cells cs E')).heap[w.heap.size]? = some (.cells cs E' (0, 0)) := heap_alloc_new w _
      have := cell_of_row (w.alloc (.cells cs E')) w.heap.size j cs E' (0, 0) hh
      have e : (⟨w.heap.size, 0, none⟩ : Addr).add j = ⟨w.heap.size, j, none⟩ := by unfold Addr.add; split <;> simp_all
      rw [e, this]
      simpa using hu) h1 h63 hbytes (by simp; omega)
  have hg : w.grownBy w' v.ownBlock := by
    have h2 := World.grownBy_alloc w (.cells cs E') v.ownBlock
    refine ⟨hgrow.os.trans h2.os, hgrow.tape.trans h2.tape, hgrow.output.trans h2.output, Nat.le_trans h2.size hgrow.size, fun j hj hne => ?_⟩
    rw [hgrow.block j (by simp; omega) hne, h2.block j hj hne]
  refine ⟨v', w', hrun, ⟨?_, ?_⟩, hg, by simpa using hat⟩
  · intro y hy
    rcases List.mem_append.1 hy with hy | hy
    · exact hown.1 y hy
    · rw [List.mem_singleton.1 hy]; simpa using hk
  · rw [List.length_append, List.flatten_append]
    simpa using hown'
theorem step_app1K {ops : Array Oper} {o : Oper} {a : Act} {K : Act → World → Prop} {Q : Exit → Act → World → Prop} {EE : Prop} (el : ElemK P T E k bytes) (hgd : o.guard = none) (s x : Operand)
    (ho : o.op = .call { callee := .builtin .append, args := #[s, x], argTypes := #[T, T] })
    (hs : a.eval s = v) (hown : OwnK w base E k v xss) (cs : Array Value) (E' : TypeId) (hx : a.eval x = .slice (some ⟨w.heap.size, 0, none⟩) 1 1) (hk : cs.size = k) (h1 : ∀ u ∈ cs.toList, u.oneCell' = true)
    (h63 : xss.length + 1 ≤ maxLen) (hbytes : (xss.length + 1) * bytes ≤ 140737488355328) (hbase : base ≤ w.heap.size)
    (h : ∀ v' w', OwnK w' base E k v' (xss ++ [cs.toList]) → w.grownBy w' v.ownBlock → (v'.ownBlock = v.ownBlock ∨ v'.ownBlock = some (w.heap.size + 1)) → K (a.put o.dst v') w') : if Region.wanted o (yielded ops a.tmps) = true then Oper.wp P o a (w.alloc (.cells cs E')) K Q else EE := by
  have hw : Region.wanted o (yielded ops a.tmps) = true := by simp [Region.wanted, hgd]
  rw [if_pos hw]
  obtain ⟨v', w', hrun, h2, h3, h4⟩ := run_app1K el o.type hown cs E' hk h1 h63 hbytes hbase
  unfold Oper.wp execOp
  simp only [ho, resolve, invoke, builtin, Sem.run_bind, Sem.run_pure, Result.andThen_ok, List.map_toArray, List.map_cons, List.map_nil, hs, hx, hrun]
  exact h v' w' h2 h3 h4
end
def PlaceI (K : List (List Nat)) (x : List Nat) (r : Int) : Prop := (r = -1 ∧ x ∉ K) ∨ ∃ p : Nat, r = (p : Int) ∧ PlaceIs K x p
set_option maxHeartbeats 800000 in
theorem ref_place (A A' : Option Addr) (n n' c c' : Nat) (K : List (List Nat)) (x : List Nat) (r : Int) (w : World) {B B' : Nat} (h : Rows w B A n (K.map (vn .u8))) (h' : Reads w B' A' n' (vn .u8 x)) (hn : n ≤ 100) (hK : Hid (∀ y ∈ K, y.length ≤ 64)) (hr : Hid (PlaceI K x r)) :
    Calls Try.prog 29 #[.slice A n c, .slice A' n' c'] w (RetQ w (.int .i64 r)) := by
  have HL : Hid (K.length = n) := by have := h.length; rwa [List.length_map] at this
  go_enter Try.func29, Try.ntmps29
  go_wp2
  go_loopw [9] (fun iv wr => ∃ k m : Nat, k ≤ n ∧ iv = .int .i64 (k : Int) ∧ wr = w.drewN m ∧ Hid (∀ j, j < k → K[j]? ≠ some x)) (fun iv _ => n - (intOf iv).toNat)
  case atStart => exact ⟨0, 0, Nat.zero_le _, rfl, rfl, fun j hj => by omega⟩
  case round =>
    obtain ⟨k, m, hk, rfl, rfl, hno⟩ := hrel
    by_cases hlt : k < n
    · obtain ⟨ad, ys, A2, n2, c2, e1, hadb, hys, hc, hrd⟩ := h.row hlt
      subst e1
      rw [List.getElem?_map] at hys
      obtain ⟨y, hy, rfl⟩ := Option.map_eq_some_iff.1 hys
      have hn2 : n2 ≤ 64 := by rw [← hrd.nat_len]; exact hK.out y (mem_at hy)
      have cb := ref_Bytes A2 A' n2 n' c2 c' y x (decide (y = x)) (w.drewN m) (hrd.drewN m) (h'.drewN m) (by unfold maxLen; omega) rfl
      have HY := Lib.hid hy
      have i0 : (0 : Int) ≤ (k : Int) := by omega
      have i1 : (k : Int) < (n : Int) := by omega
      clear hy hys hrd
      by_cases hxy : y = x
      · have hb : decide (y = x) = true := by simpa using hxy
        rw [hb] at cb
        have HR : Hid (r = (k : Int)) := by
          unfold Hid
          have hpl : PlaceIs K x k := ⟨by rw [HY.out, hxy], hno.out⟩
          rcases hr.out with ⟨_, h2⟩ | ⟨p, h2, h3⟩
          · exact absurd hpl.mem h2
          · rw [h2, h3.uniq hpl]
        clear hb hxy
        go_wp2_with (go_at_call 14; refine cb.mono ?_; clear cb; rintro e w2 ⟨rfl, m2, rfl⟩)
        go_ret
        exact ⟨ret_i HR.out.symm, m + m2, by first | rfl | rw [World.drewN_drewN]⟩
      · have hb : decide (y = x) = false := by simpa using hxy
        rw [hb] at cb
        have HN : Hid (∀ j, j < k + 1 → K[j]? ≠ some x) := fun j hj => by
          by_cases e : j = k
          · rw [e, HY.out]; intro e2; injection e2 with e2; exact hxy e2
          · exact hno.out j (by omega)
        clear hb hxy
        go_wp2_with (go_at_call 14; refine cb.mono ?_; clear cb; rintro e w2 ⟨rfl, m2, rfl⟩)
        go_roundw
        case rel => exact ⟨k + 1, m + m2, by omega, by go_num, by first | rfl | rw [World.drewN_drewN], HN⟩
        case measure => simp [intOf] <;> omega
    · obtain rfl : n = k := by omega
      have HR : Hid (r = -1) := by
        unfold Hid
        rcases hr.out with ⟨h2, _⟩ | ⟨p, h2, h3⟩
        · exact h2
        · exact absurd h3.1 (hno.out p (by have := h3.lt; have := HL.out; omega))
      go_wp2
      go_ret
      exact ⟨ret_i HR.out.symm, m, rfl⟩
end Go.Proofs.Ytglcljlafioleaa

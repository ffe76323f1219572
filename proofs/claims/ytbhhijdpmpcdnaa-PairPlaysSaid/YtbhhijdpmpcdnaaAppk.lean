/-
  An append of a struct that was just laid, as a step of a region. Over any program.
-/
import Derived.Test.YtbhhijdpmpcdnaaStructs
import Derived.Test.YtbhhijdpmpcdnaaStep
set_option linter.unusedVariables false
namespace Go.Proofs.Ytbhhijdpmpcdnaa
open Go.RowKit

section
variable {P : Program} {w w' : World} {base k : Nat} {E T : TypeId} {v : Value} {xss : List (List Value)} {bytes : Nat}
theorem run_app1Kp (el : ElemK P T E k bytes) (ty : TypeId) (hown : OwnK w base E k v xss) (cs : Array Value) (E' : TypeId) (hk : cs.size = k) (h1 : ∀ u ∈ cs.toList, u.oneCell' = true)
    (h63 : xss.length + 1 ≤ maxLen) (hbytes : (xss.length + 1) * bytes ≤ 140737488355328) (hbase : base ≤ w.heap.size) :
    ∃ v' w', (Builtin.append_ #[T, T] ty #[v, .slice (some ⟨w.heap.size, 0, none⟩) 1 1]).run P (w.alloc (.cells cs E')) = .ok v' w' ∧ OwnK w' base E k v' (xss ++ [cs.toList]) ∧ w.grownBy w' v.ownBlock ∧ (v'.ownBlock = v.ownBlock ∨ v'.ownBlock = some (w.heap.size + 1)) := by
  obtain ⟨i, z, hi, hz, hsize, hby, hzs⟩ := el.info
  obtain ⟨v', w', hrun, hown', hgrow, _, hat⟩ := run_append_own_at (P := P) (w.alloc (.cells cs E')) base T ty E i z k bytes el.under hi hz hsize hby hzs el.pos v xss.length xss.flatten (World.ownsRow.alloc hown.2 _) ⟨w.heap.size, 0, none⟩ 1 1 cs.toList (by simpa using hk)
    (fun j u hu => by
      have hh : (w.alloc (.cells cs E')).heap[w.heap.size]? = some (.cells cs E' (0, 0)) := heap_alloc_new w _
      have := cell_of_row (w.alloc (.cells cs E')) w.heap.size j cs E' (0, 0) hh
      have e : (⟨w.heap.size, 0, none⟩ : Addr).add j = ⟨w.heap.size, j, none⟩ := by unfold Addr.add; split <;> simp_all
      rw [e, this]
      simpa using hu) h1 h63 hbytes (by simp; omega)
  have hg : w.grownBy w' v.ownBlock := by
    have h2 := World.grownBy_alloc w (.cells cs E') v.ownBlock
    refine ⟨hgrow.os.trans h2.os, hgrow.tape.trans h2.tape, hgrow.output.trans h2.output, Nat.le_trans h2.size hgrow.size, fun j hj hne => ?_⟩
    rw [hgrow.block j (by simp; omega) hne, h2.block j hj hne]
  refine ⟨v', w', hrun, ⟨?_, ?_⟩, hg, by simpa using hat⟩
  · intro y hy
    rcases List.mem_append.1 hy with hy | hy
    · exact hown.1 y hy
    · rw [List.mem_singleton.1 hy]; simpa using hk
  · rw [List.length_append, List.flatten_append]
    simpa using hown'
theorem step_app1Kp {ops : Array Oper} {o : Oper} {a : Act} {K : Act → World → Prop} {Q : Exit → Act → World → Prop} {EE : Prop} (el : ElemK P T E k bytes) (hgd : o.guard = none) (s x : Operand)
    (ho : o.op = .call { callee := .builtin .append, args := #[s, x], argTypes := #[T, T] })
    (hs : a.eval s = v) (hown : OwnK w base E k v xss) (cs : Array Value) (E' : TypeId) (hx : a.eval x = .slice (some ⟨w.heap.size, 0, none⟩) 1 1) (hk : cs.size = k) (h1 : ∀ u ∈ cs.toList, u.oneCell' = true)
    (h63 : xss.length + 1 ≤ maxLen) (hbytes : (xss.length + 1) * bytes ≤ 140737488355328) (hbase : base ≤ w.heap.size)
    (h : ∀ v' w', OwnK w' base E k v' (xss ++ [cs.toList]) → w.grownBy w' v.ownBlock → (v'.ownBlock = v.ownBlock ∨ v'.ownBlock = some (w.heap.size + 1)) → K (a.put o.dst v') w') : if Region.wanted o (yielded ops a.tmps) = true then Oper.wp P o a (w.alloc (.cells cs E')) K Q else EE := by
  have hw : Region.wanted o (yielded ops a.tmps) = true := by simp [Region.wanted, hgd]
  rw [if_pos hw]
  obtain ⟨v', w', hrun, h2, h3, h4⟩ := run_app1Kp el o.type hown cs E' hk h1 h63 hbytes hbase
  unfold Oper.wp execOp
  simp only [ho, resolve, invoke, builtin, Sem.run_bind, Sem.run_pure, Result.andThen_ok, List.map_toArray, List.map_cons, List.map_nil, hs, hx, hrun]
  exact h v' w' h2 h3 h4
end
end Go.Proofs.Ytbhhijdpmpcdnaa

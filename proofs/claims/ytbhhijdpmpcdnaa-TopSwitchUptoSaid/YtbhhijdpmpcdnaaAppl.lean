/-
  append(v, src...) of structs: the source reads as a list of structs; it may be nil. Over any program.
-/
import Derived.Test.YtbhhijdpmpcdnaaStructs
set_option linter.unusedVariables false
namespace Go.Proofs.Ytbhhijdpmpcdnaa
open Go.RowKit

theorem flat_inv {k : Nat} (hk : 0 < k) : ∀ (xss : List (List Value)), (∀ x ∈ xss, x.length = k) → ∀ (j : Nat) (u : Value), xss.flatten[j]? = some u → ∃ (i : Nat) (xs : List Value) (j' : Nat), xss[i]? = some xs ∧ xs[j']? = some u ∧ j = i * k + j'
  | [], _, j, u, h => by simp at h
  | x :: t, hl, j, u, h => by
    have hx := hl x (by simp)
    rw [List.flatten_cons] at h
    rcases Nat.lt_or_ge j k with h1 | h1
    · rw [List.getElem?_append_left (by omega)] at h
      exact ⟨0, x, j, rfl, h, by omega⟩
    · rw [List.getElem?_append_right (by omega), hx] at h
      obtain ⟨i, xs, j', h2, h3, h4⟩ := flat_inv hk t (fun y hy => hl y (List.mem_cons_of_mem _ hy)) (j - k) u h
      exact ⟨i + 1, xs, j', by simpa using h2, h3, by rw [Nat.succ_mul]; omega⟩
section
variable {P : Program} {w w' : World} {base k : Nat} {E T : TypeId} {v : Value} {xss : List (List Value)} {bytes : Nat}
theorem appNK {ops : Array Oper} {rest : List Oper} {o : Oper} {a : Act} {Q : Exit → Act → World → Prop} (el : ElemK P T E k bytes) (hgd : o.guard = none) (s x : Operand)
    (ho : o.op = .call { callee := .builtin .append, args := #[s, x], argTypes := #[T, T] })
    (hs : a.eval s = v) (hown : OwnK w base E k v xss) {A : Option Addr} {m c B : Nat} {news : List (List Value)} (hx : a.eval x = .slice A m c) (hr : ReadsK w B k A m news) (h1 : ∀ y ∈ news, ∀ u ∈ y, u.oneCell' = true)
    (h63 : xss.length + m ≤ maxLen) (hbytes : (xss.length + m) * bytes ≤ 140737488355328) (hbase : base ≤ w.heap.size)
    (h : ∀ v' w', OwnK w' base E k v' (xss ++ news) → Below base w w' → w.grownBy w' v.ownBlock → (v'.ownBlock = v.ownBlock ∨ v'.ownBlock = some w.heap.size) → wpList P ops Q rest (a.put o.dst v') w') : wpList P ops Q (o :: rest) a w := by
  obtain ⟨i, z, hi, hz, hsize, hby, hzs⟩ := el.info
  have hnk : ∀ y ∈ news, y.length = k := by
    intro y hy
    obtain ⟨j, hj⟩ := List.getElem?_of_mem hy
    have hm : 0 < m := by rw [← hr.len]; exact Nat.lt_of_le_of_lt (Nat.zero_le _) (List.getElem?_eq_some_iff.1 hj).1
    obtain ⟨ad, e, _, hc⟩ := hr.cells hm
    exact (hc j y hj).1
  rcases A with _ | ad
  · have hm : m = 0 := by
      rcases Nat.eq_zero_or_pos m with h0 | h0
      · exact h0
      · obtain ⟨ad, e, _⟩ := hr.cells h0; cases e
    subst hm
    have hn : news = [] := List.eq_nil_of_length_eq_zero hr.len
    subst hn
    have hrun : (Builtin.append_ #[T, T] o.type #[v, .slice none 0 c]).run P w = .ok v w := by
      rcases hown.2.2 with ⟨rfl, h0⟩ | ⟨g, cap, cur, rfl, _, _, hnc, _⟩
      · have hx0 : xss = [] := List.eq_nil_of_length_eq_zero h0
        subst hx0
        simp [Builtin.append_, run_underlying el.under, sizeOf, typeInfo, hi, Builtin.lenOf, Builtin.firstCells]
      · simp [Builtin.append_, run_underlying el.under, sizeOf, typeInfo, hi, Builtin.lenOf, Builtin.firstCells, hnc, storeCells]
    refine wpList_plain hgd fun K hK => ?_
    unfold Oper.wp execOp
    simp only [ho, resolve, invoke, builtin, Sem.run_bind, Sem.run_pure, Result.andThen_ok, List.map_toArray, List.map_cons, List.map_nil, hs, hx, hrun]
    exact hK _ _ (h v w (by simpa using hown) (Below.refl _ _) (World.grownBy.refl w _) (.inl rfl))
  · have hc : ∀ j u, news.flatten[j]? = some u → w.cell? (ad.add j) = some u := by
      intro j u hu
      obtain ⟨i', xs, j', h2, h3, rfl⟩ := flat_inv el.pos news hnk j u hu
      have hm : 0 < m := by rw [← hr.len]; exact Nat.lt_of_le_of_lt (Nat.zero_le _) (List.getElem?_eq_some_iff.1 h2).1
      obtain ⟨ad', e, _, hc⟩ := hr.cells hm
      injection e with e; subst e
      exact (hc i' xs h2).2 j' u h3
    refine wpList_append_own_at w hgd s x T ho base E i z k bytes el.under hi hz hsize hby hzs el.pos v xss.length xss.flatten hs hown.2 ad m c news.flatten hx (by rw [flat_len news hnk, hr.len])
      hc (fun u hu => by obtain ⟨y, hy, hu⟩ := List.mem_flatten.1 hu; exact h1 y hy u hu) h63 hbytes hbase ?_
    intro v' w' hown' hgrow _ hat
    refine h v' w' ⟨fun y hy => ?_, ?_⟩ (grown_below hgrow hbase (fun j hj => (OwnK.lt hown j hj).1)) hgrow hat
    · rcases List.mem_append.1 hy with hy | hy
      · exact hown.1 y hy
      · exact hnk y hy
    · rw [List.length_append, List.flatten_append, hr.len]
      exact hown'
/-- a row of structs that was just laid -/
theorem reads_layK (w : World) (cs : Array Value) (T' : TypeId) (xss : List (List Value)) (hk : ∀ x ∈ xss, x.length = k) (hc : cs.toList = xss.flatten) : ReadsK (w.alloc (.cells cs T')) (w.heap.size + 1) k (some ⟨w.heap.size, 0, none⟩) xss.length xss := by
  refine ⟨rfl, fun _ => ⟨_, rfl, by simp, fun i xs hx => ⟨hk xs (List.mem_of_getElem? hx), fun j u hu => ?_⟩⟩⟩
  have hj : j < k := by rw [← hk xs (List.mem_of_getElem? hx)]; exact (List.getElem?_eq_some_iff.1 hu).1
  have hh : (w.alloc (.cells cs T')).heap[w.heap.size]? = some (.cells cs T' (0, 0)) := heap_alloc_new w _
  have := cell_of_row (w.alloc (.cells cs T')) w.heap.size (i * k + j) cs T' (0, 0) hh
  have e : (⟨w.heap.size, 0, none⟩ : Addr).add (i * k + j) = ⟨w.heap.size, i * k + j, none⟩ := by unfold Addr.add; split <;> simp_all
  rw [e, this]
  have h2 := (flat_at xss i j xs hk hx hj).trans hu
  rw [← hc] at h2
  simpa using h2
/-- an empty row that was just built -/
theorem OwnK.built0 (w : World) (hB : base ≤ w.heap.size) : OwnK (w.alloc (.cells #[] E)) base E k (.slice (some ⟨w.heap.size, 0, none⟩) 0 0) [] :=
  ⟨by simp, by simp, .inr ⟨w.heap.size, 0, #[], by simp, hB, heap_alloc_new w _, by simp, by unfold maxLen; omega, by simp, by simp⟩⟩
end
end Go.Proofs.Ytbhhijdpmpcdnaa

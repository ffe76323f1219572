/-
  Appending while an older slice of the same row is still read: what it reads stays. Over any program.
-/
import Derived.Test.YtipnnpjinopgoaaOwn
set_option linter.unusedVariables false
namespace Go.Proofs.Ytipnnpjinopgoaa
open Go.RowKit

section
variable {P : Program} {w w' : World} {base : Nat} {E T : TypeId} {v z : Value} {xs : List Value} {bytes : Nat}
theorem run_app_far (el : Elem P T E z bytes) (ty : TypeId) (hown : Own w base E v xs) (ad : Addr) (m c : Nat) (news : List Value) (hl : news.length = m) (hnews : ∀ j u, news[j]? = some u → w.cell? (ad.add j) = some u) (h1 : ∀ u ∈ news, u.oneCell' = true)
    (h63 : xs.length + m ≤ maxLen) (hbytes : (xs.length + m) * bytes ≤ 140737488355328) (hbase : base ≤ w.heap.size) :
    ∃ v' w', (Builtin.append_ #[T, T] ty #[v, .slice (some ad) m c]).run P w = .ok v' w' ∧ Own w' base E v' (xs ++ news) ∧ w.grownBy w' v.ownBlock ∧ (v'.ownBlock = v.ownBlock ∨ v'.ownBlock = some w.heap.size) ∧ (v'.ownBlock = v.ownBlock ∨ Below w.heap.size w w') := by
  obtain ⟨i, hi, hz, hsize, hby⟩ := el.info
  obtain ⟨v', w', hr, h2, h3, _, h5⟩ := run_append_own_at (P := P) w base T ty E i z 1 bytes el.under hi hz hsize hby (by rw [el.one]; rfl) (by omega) v xs.length xs hown ad m c news (by rw [hl]; omega) hnews h1 h63 hbytes hbase
  refine ⟨v', w', hr, ?_, h3, h5, ?_⟩
  · unfold Own
    rw [List.length_append, hl]
    exact h2
  · rcases hown.2 with ⟨rfl, h0⟩ | ⟨g, cap, cur, rfl, hbg, hg, hnc, hcm, hcs, htake⟩
    · refine .inr ⟨h3.os, h3.tape, h3.output, h3.size, fun k hk => h3.block k hk (by simp [Value.ownBlock])⟩
    · by_cases hroom : xs.length + m ≤ cap
      · have hfit : xs.length * i.size + news.length ≤ cur.size := by rw [hl, hcs, hsize]; omega
        have hr2 := run_append_room (P := P) w T ty E i el.under hi g xs.length cap cur hg ad m c news (by rw [hl, hsize]; omega) hnews h1 hroom hfit
        rw [hr] at hr2
        injection hr2 with e1 e2
        rw [e1]
        exact .inl rfl
      · have holds : ∀ j u, xs[j]? = some u → w.cell? ((⟨g, 0, none⟩ : Addr).add j) = some u := World.ownsRow.cells hown (g := g) rfl
        have hmx : maxLen = 9223372036854775807 := rfl
        have hr2 := run_append_grow (P := P) w T ty E i z el.under hi hz ⟨g, 0, none⟩ xs.length cap xs (by rw [hsize]; omega) holds ad m c news (by rw [hl, hsize]; omega) hnews (by omega) (by omega) (by rw [hby]; exact growslice_fits (by omega) hbytes)
        rw [hr] at hr2
        injection hr2 with e1 e2
        rw [e2]
        exact .inr ((Below.refl _ w).drew.alloc (Nat.le_refl _) _)
/-- append(v, u): u was just laid into a block of its own; the row that v had is left as it was if v moves. -/
theorem app1F {ops : Array Oper} {rest : List Oper} {o : Oper} {a : Act} {Q : Exit → Act → World → Prop} (el : Elem P T E z bytes) (hgd : o.guard = none) (s x : Operand)
    (ho : o.op = .call { callee := .builtin .append, args := #[s, x], argTypes := #[T, T] })
    (hs : a.eval s = v) (hown : Own w base E v xs) (u : Value) (E' : TypeId) (hx : a.eval x = .slice (some ⟨w.heap.size, 0, none⟩) 1 1) (h1 : u.oneCell' = true)
    (h63 : xs.length + 1 ≤ maxLen) (hbytes : (xs.length + 1) * bytes ≤ 140737488355328) (hbase : base ≤ w.heap.size)
    (h : ∀ v' w', Own w' base E v' (xs ++ [u]) → Below base w w' → w.grownBy w' v.ownBlock → (v'.ownBlock = v.ownBlock ∨ v'.ownBlock = some (w.heap.size + 1)) → (v'.ownBlock = v.ownBlock ∨ Below w.heap.size w w') → wpList P ops Q rest (a.put o.dst v') w') : wpList P ops Q (o :: rest) a (w.alloc (.cells #[u] E')) := by
  obtain ⟨v', w', hr, ho', hg, hat, hfar⟩ := run_app_far el o.type (hown.alloc (.cells #[u] E')) ⟨w.heap.size, 0, none⟩ 1 1 [u] rfl (cell_one_new _ _ _) (by intro y hy; simp at hy; subst hy; exact h1) h63 hbytes (by simp; omega)
  have hg2 : w.grownBy w' v.ownBlock := by
    have h2 := World.grownBy_alloc w (.cells #[u] E') v.ownBlock
    refine ⟨hg.os.trans h2.os, hg.tape.trans h2.tape, hg.output.trans h2.output, Nat.le_trans h2.size hg.size, fun k hk hne => ?_⟩
    rw [hg.block k (by simp; omega) hne, h2.block k hk hne]
  refine wpList_plain hgd fun K hK => ?_
  unfold Oper.wp execOp
  simp only [ho, resolve, invoke, builtin, Sem.run_bind, Sem.run_pure, Result.andThen_ok, List.map_toArray, List.map_cons, List.map_nil, hs, hx, hr]
  refine hK _ _ (h v' w' ho' (grown_below hg2 hbase (fun k hk => (Own.lt hown k hk).1)) hg2 (by simpa using hat) ?_)
  rcases hfar with h3 | h3
  · exact .inl h3
  · exact .inr (((Below.refl _ w).alloc (Nat.le_refl _) _).trans (h3.mono (by simp)))
end
/-- what an older slice of the row reads stays -/
theorem far_keep {w w' : World} {base B g n : Nat} {E : TypeId} {v v' : Value} {fs rs : List Value} {u : Value} (h : Reads w B (some ⟨g, 0, none⟩) n fs) (hB : B ≤ w.heap.size)
    (ho : Own w' base E v' (fs ++ rs ++ [u])) (hg : w.grownBy w' v.ownBlock) (hfar : v'.ownBlock = v.ownBlock ∨ Below w.heap.size w w') : Reads w' B (some ⟨g, 0, none⟩) n fs := by
  by_cases hv : v.ownBlock = some g
  · rcases hfar with h1 | h1
    · rw [hv] at h1
      rcases Nat.eq_zero_or_pos n with h0 | h0
      · subst h0
        exact ⟨h.len, fun hh => absurd hh (by omega)⟩
      · obtain ⟨ad, e, hb, _⟩ := h.cells h0
        injection e with e
        subst e
        refine ⟨h.len, fun _ => ⟨_, rfl, hb, fun j y hy => World.ownsRow.cells ho h1 j y ?_⟩⟩
        have hj := (List.getElem?_eq_some_iff.1 hy).1
        rw [List.append_assoc, List.getElem?_append_left hj]
        exact hy
    · exact h.below (h1.mono hB)
  · refine ⟨h.len, fun hn => ?_⟩
    obtain ⟨ad, e, hb, hc⟩ := h.cells hn
    refine ⟨ad, e, hb, fun j y hy => ?_⟩
    refine (World.cell?_of_block (hg.block (ad.add j).block (by rw [block_of_add]; omega) ?_)).trans (hc j y hy)
    rw [block_of_add]
    injection e with e
    subst e
    exact fun e2 => hv e2.symm
end Go.Proofs.Ytipnnpjinopgoaa

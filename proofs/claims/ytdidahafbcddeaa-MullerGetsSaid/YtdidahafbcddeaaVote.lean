/-
  muller.vote and quipuref.votes: how many parts there are, and how many are odd.
-/
import Derived.Test.YtdidahafbcddeaaMapB
import Derived.Test.YtdidahafbcddeaaMull
import Derived.Maps.RangeWalk
set_option linter.unusedVariables false
namespace Go.Proofs.Ytdidahafbcddeaa
open Go.RowKit
open Go.Maps (Keyed)

/-- block b is a map with the keys ks, which finds f a at the key a -/
def MapL (P : Program) (k e : TypeId) (w : World) (b n : Nat) (f : Int → Bool) (ks : List Int) : Prop :=
  ∃ D : DataW Unit, w.ownsMap P k (plainElem P e) b n D ∧ (∀ a : Int, D.atKey (.int .i64 a) (.lit (.bool false)) = .lit (.bool (f a))) ∧ (∀ a : Int, Maps.has D (.int .i64 a) = decide (a ∈ ks)) ∧ Maps.size D = ks.length ∧ ks.Nodup
section
variable {P : Program} {k e t : TypeId} {w w' : World} {b n : Nat} {f : Int → Bool} {ks : List Int}
theorem MapL.keep (h : MapL P k e w b n f ks) (hh : w'.heap[b]? = w.heap[b]?) : MapL P k e w' b n f ks := by
  obtain ⟨D, ⟨es, clock, h1, h2⟩, hD⟩ := h
  exact ⟨D, ⟨es, clock, hh.trans h1, h2⟩, hD⟩
theorem MapL.lt (h : MapL P k e w b n f ks) : b < w.heap.size := by
  obtain ⟨D, h1, _⟩ := h
  exact h1.lt
theorem MapL.made (w : World) (P : Program) (k e : TypeId) : MapL P k e (w.alloc (.map #[] 0)) w.heap.size 0 (fun _ => false) [] :=
  ⟨.map [], World.ownsMap_made w P k _, fun _ => rfl, fun _ => rfl, rfl, List.nodup_nil⟩
theorem MapL.look (h : MapL P k e w b n f ks) (ht : P.underlying t = some (.map k e)) (hk : P.underlying k = some (.int .i64)) (he : P.underlying e = some .bool) (hz : (zeroValue e).run P w = .ok (.bool false) w) (a : Int) (ha : (Lit.int .i64 a).wf = true) :
    (Instr.lookup t (.map (some b)) (.int .i64 a) false).run P w = .ok (.bool (f a)) w := by
  obtain ⟨D, h1, hD, _⟩ := h
  exact MapB.look ⟨D, h1, hD⟩ ht hk he hz a ha
theorem MapL.put (h : MapL P k e w b n f ks) (ht : P.underlying t = some (.map k e)) (hk : P.underlying k = some (.int .i64)) (he : P.underlying e = some .bool) (hn : n < maxLen) (a : Int) (ha : (Lit.int .i64 a).wf = true) (x : Bool) :
    ∃ w', (Instr.mapUpdate t (.map (some b)) (.int .i64 a) (.bool x)).run P w = .ok () w' ∧ MapL P k e w' b (n + 1) (fun y => if y = a then x else f y) (if a ∈ ks then ks else ks ++ [a]) ∧ w.grownBy w' (some b) := by
  obtain ⟨D, h1, hD, hH, hS, hN⟩ := h
  obtain ⟨w', hr, h2, hg⟩ := h1.update (Maps.int_keyed hk) ht hn (Maps.keyOf_int_mk hk ha) (plainElem_bool he x)
  have hkl : WideAt.IsKeyLit (.int .i64 a) := trivial
  refine ⟨w', hr, ⟨_, h2, fun y => ?_, fun y => ?_, ?_, ?_⟩, hg⟩
  · dsimp only
    by_cases hy : y = a
    · subst hy
      rw [if_pos rfl, Maps.atKey_put_same h1.isMap (show WideAt.IsKeyLit (.int .i64 y) from trivial)]
    · rw [if_neg hy, Maps.atKey_put_other (by simpa using hy), hD y]
  · by_cases hy : y = a
    · subst hy
      rw [Maps.has_put_same h1.isMap (show WideAt.IsKeyLit (.int .i64 y) from trivial)]
      split
      · simp [*]
      · simp
    · rw [Maps.has_put_other (by simpa using hy), hH y]
      split
      · rfl
      · simp [hy]
  · rw [Maps.size_put (h1.tidy (Maps.int_keyed hk)), hH a, hS]
    by_cases hm : a ∈ ks
    · simp [hm]
    · simp [hm]
  · split
    · exact hN
    · rename_i hm
      refine List.nodup_append.2 ⟨hN, by simp, ?_⟩
      intro x hx y hy e
      rw [List.mem_singleton.1 hy] at e
      subst e
      exact hm hx
theorem MapL.len (h : MapL P k e w b n f ks) (ht : P.underlying t = some (.map k e)) (ty : TypeId) : (Builtin.len_ #[t] ty #[.map (some b)]).run P w = .ok (.int .i64 (ks.length : Int)) w := by
  obtain ⟨D, h1, _, _, hS, _⟩ := h
  rw [h1.len ht ty, hS]
/-- 'range m' under way: the keys vs have come -/
def RangeL (P : Program) (k e : TypeId) (w : World) (b r n : Nat) (f : Int → Bool) (ks vs : List Int) (cnt : Nat) : Prop :=
  ∃ (D : DataW Unit) (left : Lit → Bool), w.ranges P k (plainElem P e) b r n D left cnt ∧ (∀ a : Int, D.atKey (.int .i64 a) (.lit (.bool false)) = .lit (.bool (f a))) ∧ (∀ a : Int, left (.int .i64 a) = (decide (a ∈ ks) && !decide (a ∈ vs))) ∧ Maps.size D = ks.length ∧ ks.Nodup ∧ vs.Nodup ∧ ∀ a ∈ vs, a ∈ ks
theorem RangeL.left_eq {vs : List Int} {r cnt : Nat} (h : RangeL P k e w b r n f ks vs cnt) : w.rangeLeft b r = cnt := by
  obtain ⟨D, left, h1, _⟩ := h
  exact h1.left_eq
theorem RangeL.len {vs : List Int} {r cnt : Nat} (h : RangeL P k e w b r n f ks vs cnt) (ht : P.underlying t = some (.map k e)) (ty : TypeId) : (Builtin.len_ #[t] ty #[.map (some b)]).run P w = .ok (.int .i64 (ks.length : Int)) w := by
  obtain ⟨D, left, h1, _, _, hS, _⟩ := h
  rw [h1.owns.len ht ty, hS]
theorem nodup_le : ∀ (vs ks : List Int), vs.Nodup → (∀ a ∈ vs, a ∈ ks) → vs.length ≤ ks.length
  | [], _, _, _ => Nat.zero_le _
  | v :: vs, ks, hn, hs => by
    rw [List.nodup_cons] at hn
    have h1 : v ∈ ks := hs v (by simp)
    have h2 := nodup_le vs (ks.erase v) hn.2 fun a ha => (List.mem_erase_of_ne (fun e => by subst e; exact hn.1 ha)).2 (hs a (by simp [ha]))
    rw [List.length_erase_of_mem h1] at h2
    have h3 := List.length_pos_of_mem h1
    rw [List.length_cons]
    omega
theorem RangeL.vlen {vs : List Int} {r cnt : Nat} (h : RangeL P k e w b r n f ks vs cnt) : vs.length ≤ ks.length := by
  obtain ⟨D, left, _, _, _, _, _, hV, hS⟩ := h
  exact nodup_le vs ks hV hS
theorem wf_small16 (a : Nat) (h : a < 65536) : (Lit.int .i64 (a : Int)).wf = true := by
  have h1 : IntKind.i64.min = -9223372036854775808 := rfl
  have h2 : IntKind.i64.max = 9223372036854775807 := rfl
  simp [Lit.wf]; omega
end
section
variable {P : Program} (w : World) {ops : Array Oper} {rest : List Oper} {o : Oper} {a : Act} {Q : Exit → Act → World → Prop} {k e t : TypeId} {b n : Nat} {f : Int → Bool} {ks : List Int}
theorem wpList_rangeL (hg : o.guard = none) (m : Operand) (hop : o.op = Op.range t m) (ht : P.underlying t = some (.map k e)) (hk : P.underlying k = some (.int .i64)) (hm : a.eval m = .map (some b)) (h : MapL P k e w b n f ks)
    (hK : ∀ w' cnt, RangeL P k e w' b w.heap.size n f ks [] cnt → w.grownBy w' none → w'.heap.size = w.heap.size + 1 → wpList P ops Q rest (a.put o.dst (.pointer (some ⟨w.heap.size, 0, none⟩))) w') : wpList P ops Q (o :: rest) a w := by
  obtain ⟨D, h1, hD, hH, hS, hN⟩ := h
  refine wpList_range_own w hg m t hop k e (Maps.int_keyed hk) ht _ b n D hm h1 ?_
  intro w' hr hgr hs
  exact hK w' _ ⟨D, _, hr, hD, fun a => by rw [hH a]; simp, hS, hN, List.nodup_nil, by simp⟩ hgr hs
theorem wpList_nextL {vs : List Int} {r cnt : Nat} (hg : o.guard = none) (it : Operand) (hop : o.op = Op.next it false) (hk : P.underlying k = some (.int .i64)) (he : P.underlying e = some .bool)
    (hit : a.eval it = .pointer (some ⟨r, 0, none⟩)) (h : RangeL P k e w b r n f ks vs cnt)
    (hDone : vs.Perm ks → wpList P ops Q rest (a.put o.dst (.tuple #[.bool false])) w)
    (hMore : ∀ (x : Int) (w' : World) (cnt' : Nat), RangeL P k e w' b r n f ks (vs ++ [x]) cnt' → cnt' < cnt → w.grownBy w' (some r) → w'.heap.size = w.heap.size →
      (Instr.entry (.pointer (some ⟨r, 0, none⟩))).run P w' = .ok (.tuple #[.int .i64 x, .bool (f x)]) w' → wpList P ops Q rest (a.put o.dst (.tuple #[.bool true, .int .i64 x, .bool (f x)])) w') : wpList P ops Q (o :: rest) a w := by
  obtain ⟨D, left, h1, hD, hL, hS, hN, hV, hI⟩ := h
  refine wpList_next_ranges (α := Int) (β := Bool) w hg it hop k (Maps.int_keyed hk) (plainElem P e) (Value.int .i64) Value.bool (fun key kl hkey => by obtain ⟨x, rfl, _⟩ := Maps.keyOf_int_inv hk hkey; exact ⟨x, rfl⟩)
    (fun v y hv => ?_) b r n D left cnt hit h1 (fun h0 hl => hDone ?_) ?_
  · unfold plainElem at hv
    rw [he] at hv
    cases v <;> simp at hv
    exact ⟨_, rfl⟩
  · refine (List.perm_ext_iff_of_nodup hV hN).2 fun a => ⟨hI a, fun ha => ?_⟩
    have h2 := hL a
    rw [hl] at h2
    simp [ha] at h2
    exact h2
  · intro x c kl y w' cnt' hkey hlk hv hat hrg hlt hgr hsz hen
    obtain ⟨x', ex, rfl, hwx⟩ := Maps.keyOf_int_inv hk hkey
    cases ex
    have hfc : f x = c := by
      have h2 := hat (.lit (.bool false))
      rw [hD x] at h2
      rw [plainElem_bool he c] at hv
      injection hv with hv
      rw [← hv] at h2
      simpa using h2
    subst hfc
    have hx := hL x
    rw [hlk] at hx
    have hxk : x ∈ ks ∧ x ∉ vs := by simpa using hx.symm
    refine hMore x w' cnt' ⟨D, _, hrg, hD, fun a => ?_, hS, hN, ?_, ?_⟩ hlt hgr hsz hen
    · rw [hL a]
      by_cases hax : a = x
      · subst hax
        rw [WideAt.sameKey_self (show WideAt.IsKeyLit (.int .i64 a) from trivial)]
        simp
      · rw [Maps.sameKey_ne (by simpa using hax)]
        simp [hax]
    · refine List.nodup_append.2 ⟨hV, by simp, ?_⟩
      intro y hy z hz e
      rw [List.mem_singleton.1 hz] at e
      subst e
      exact hxk.2 hy
    · intro y hy
      rcases List.mem_append.1 hy with hy | hy
      · exact hI y hy
      · rw [List.mem_singleton.1 hy]; exact hxk.1
end
end Go.Proofs.Ytdidahafbcddeaa

/-
  A map from the states of the trellis to paths, as a function; a range over it.
-/
import Derived.Test.YtpbffbhebdcpbaaOwn
import Derived.Test.YtpbffbhebdcpbaaProg
import Derived.Maps.Own
import Derived.Maps.OwnSet
import Derived.Maps.Views
import Derived.Maps.RangeWalk
import Derived.DeepKeys3
set_option linter.unusedVariables false
namespace Go.Proofs.Ytpbffbhebdcpbaa
open Go.RowKit
open Go.Maps (Keyed)

def stV (x y : Bool) : Value := .agg #[.bool x, .bool y]
/-- a path's value: its bits' slice, and how far it is off -/
abbrev PV := Option Addr × Nat × Nat × Nat
def pvV (v : PV) : Value := .agg #[.slice v.1 v.2.1 v.2.2.1, .int .i64 (v.2.2.2 : Int)]
def pv0 : PV := (none, 0, 0, 0)
def pzV (v : Option Addr × Nat × Nat × Int) : Value := .agg #[.slice v.1 v.2.1 v.2.2.1, .int .i64 v.2.2.2]
def RTL : List Value → Option (Option Addr × Nat × Nat × Int)
  | [.slice A n c, .int k z] => if k = .i64 then some (A, n, c, z) else none
  | _ => none
def RT (v : Value) : Option (DataW Value × List MemPlace) :=
  match v with
  | .agg cs => (RTL cs.toList).map fun _ => (.held (.agg cs), [])
  | _ => none
theorem rt_pv (v : PV) : RT (pvV v) = some (.held (pvV v), []) := rfl
theorem rtl_inv {l : List Value} {c : Option Addr × Nat × Nat × Int} (h : RTL l = some c) : l = [.slice c.1 c.2.1 c.2.2.1, .int .i64 c.2.2.2] := by
  unfold RTL at h
  split at h
  · split at h
    · rename_i hk
      subst hk
      injection h with h
      subst h; rfl
    · cases h
  · cases h
theorem rt_inv {v : Value} {y : DataW Value × List MemPlace} (h : RT v = some y) : (∃ c, v = pzV c) ∧ y = (.held v, []) := by
  cases v <;> simp only [RT] at h <;> try (cases h; done)
  rename_i cs
  obtain ⟨c, hc, hy⟩ := Option.map_eq_some_iff.1 h
  refine ⟨⟨c, ?_⟩, hy.symm⟩
  have := rtl_inv hc
  unfold pzV
  congr 1
  exact Array.toList_inj.1 this
theorem st_law : WideMaps.KeyLaw Try.prog 49 := deep_law (m := 3) (by omega) (by kernel_rfl) (by kernel_rfl) (by rw [Try.underlying49])
theorem st_keyed : Keyed Try.prog 49 := Keyed.of_law st_law
theorem st_size : ∃ d, Try.prog.types.size = d + 1 := ⟨Try.prog.types.size - 1, by kernel_rfl⟩
theorem st_key (x y : Bool) : ∃ l, keyOf Try.prog 49 (stV x y) = some l := by
  have h1 : Try.prog.keyType 49 = true := by kernel_rfl
  have h2 : Try.prog.cellsOf 49 = 2 := by kernel_rfl
  have h3 : Try.prog.cellsOf 4 = 1 := by kernel_rfl
  obtain ⟨d, hd⟩ := st_size
  have hf : (stV x y).formed Try.prog 49 = true := by simp [stV, Value.formed, Try.underlying49, h2]
  have hl : ∃ L, Try.prog.keyLits (Try.prog.types.size + 1) 49 (stV x y).cells.toList = some L := by
    rw [hd]
    refine ⟨[.bool x, .bool y], ?_⟩
    simp [Program.keyLits, Try.underlying49, stV, Value.cells, h2, h3, Try.underlying4, List.range_succ]
  obtain ⟨L, hL⟩ := hl
  refine ⟨.string (keyBytes L), ?_⟩
  unfold keyOf
  rw [Try.underlying49]
  simp only [h1, hf, Bool.and_self, if_true]
  rw [hL]
  rfl
theorem st_inv {key : Value} {kl : Lit} (h : keyOf Try.prog 49 key = some kl) : ∃ x : Bool × Bool, key = stV x.1 x.2 := by
  have h2 : Try.prog.cellsOf 49 = 2 := by kernel_rfl
  have h3 : Try.prog.cellsOf 4 = 1 := by kernel_rfl
  obtain ⟨d, hd⟩ := st_size
  unfold keyOf at h
  rw [Try.underlying49] at h
  simp only at h
  split at h
  · rename_i hk
    rw [Bool.and_eq_true] at hk
    obtain ⟨_, hf⟩ := hk
    obtain ⟨L, hL, _⟩ := Option.map_eq_some_iff.1 h
    cases key <;> simp [Value.formed, Try.underlying49] at hf
    rename_i cs
    rw [h2] at hf
    obtain ⟨u, v, rfl⟩ : ∃ u v, cs = #[u, v] := by
      obtain ⟨l⟩ := cs
      match l, hf with
      | [u, v], _ => exact ⟨u, v, rfl⟩
      | [], h => simp at h
      | [_], h => simp at h
      | _ :: _ :: _ :: _, h => simp at h
    rw [hd] at hL
    simp [Program.keyLits, Try.underlying49, Value.cells, h2, h3, Try.underlying4, List.range_succ] at hL
    cases u <;> simp at hL
    cases v <;> simp at hL
    exact ⟨(_, _), rfl⟩
  · cases h
def keyTP (P : Program) (k : TypeId) (x y : Bool) : Lit := (keyOf P k (stV x y)).getD (.bool false)
theorem keyT_is (x y : Bool) : keyOf Try.prog 49 (stV x y) = some (keyTP Try.prog 49 x y) := by
  obtain ⟨l, h⟩ := st_key x y
  unfold keyTP
  rw [h]; rfl
theorem keyT_inj {x y x' y' : Bool} (h : keyTP Try.prog 49 x y = keyTP Try.prog 49 x' y') : x = x' ∧ y = y' := by
  have h1 := keyT_is x y
  have h2 := keyT_is x' y'
  rw [h] at h1
  have := st_law.inj h1 h2
  unfold stV at this
  simpa using this
theorem keyT_lit (x y : Bool) : ∃ kl, kl = keyTP Try.prog 49 x y ∧ WideAt.IsKeyLit kl := by
  have h := keyT_is x y
  generalize keyTP Try.prog 49 x y = l at *
  exact ⟨l, rfl, st_keyed.key h⟩
abbrev PF2 := Bool → Bool → Option PV
def FD (D : DataW Value) (f : PF2) : Prop := ∀ x y, D.atKey (keyTP Try.prog 49 x y) (.held (pvV pv0)) = .held (pvV ((f x y).getD pv0)) ∧ Maps.has D (keyTP Try.prog 49 x y) = (f x y).isSome
def MapT (w : World) (b n : Nat) (f : PF2) : Prop := ∃ D : DataW Value, w.ownsMap Try.prog 49 RT b n D ∧ FD D f
def pfPut (f : PF2) (x y : Bool) (v : PV) : PF2 := fun a b => if a = x ∧ b = y then some v else f a b
section
variable {w w' : World} {b n : Nat} {f : PF2}
theorem MapT.keep (h : MapT w b n f) (hh : w'.heap[b]? = w.heap[b]?) : MapT w' b n f := by
  obtain ⟨D, ⟨es, clock, h1, h2⟩, hD⟩ := h
  exact ⟨D, ⟨es, clock, hh.trans h1, h2⟩, hD⟩
theorem MapT.lt (h : MapT w b n f) : b < w.heap.size := by
  obtain ⟨D, h1, _⟩ := h
  exact h1.lt
theorem MapT.mono {m : Nat} (h : MapT w b n f) (hm : n ≤ m) : MapT w b m f := by
  obtain ⟨D, h1, hD⟩ := h
  exact ⟨D, h1.mono hm, hD⟩
theorem MapT.noCells (h : MapT w b n f) {cs : Array Value} {E : TypeId} {m : Nat × Nat} : w.heap[b]? ≠ some (Obj.cells cs E m) := by
  obtain ⟨D, ⟨es, clock, h1, h2⟩, hD⟩ := h
  rw [h1]; intro e; injection e with e; cases e
theorem MapT.made (w : World) : MapT (w.alloc (.map #[] 0)) w.heap.size 0 (fun _ _ => none) :=
  ⟨.map [], World.ownsMap_made w Try.prog 49 _, fun _ _ => ⟨rfl, rfl⟩⟩
theorem pvV_inj {v u : PV} (h : pvV v = pvV u) : v = u := by
  obtain ⟨A, n, c, o⟩ := v
  obtain ⟨A', n', c', o'⟩ := u
  simp only [pvV] at h
  simp at h
  obtain ⟨⟨rfl, rfl, rfl⟩, ho⟩ := h
  have : o = o' := by omega
  subst this; rfl
theorem MapT.look_ok (h : MapT w b n f) (hz : (zeroValue 51).run Try.prog w = .ok (pvV pv0) w) (x y : Bool) :
    (Instr.lookup 52 (.map (some b)) (stV x y) true).run Try.prog w = .ok (.tuple #[pvV ((f x y).getD pv0), .bool (f x y).isSome]) w := by
  obtain ⟨D, h1, hD⟩ := h
  obtain ⟨v, ps, hr, hv⟩ := h1.look_ok st_keyed Try.underlying52 hz (rt_pv pv0) (keyT_is x y)
  rw [(hD x y).1] at hv
  obtain ⟨_, hy⟩ := rt_inv hv
  injection hy with hy _
  injection hy with hy
  rw [hr, (hD x y).2, ← hy]
theorem MapT.look (h : MapT w b n f) (hz : (zeroValue 51).run Try.prog w = .ok (pvV pv0) w) (x y : Bool) :
    (Instr.lookup 52 (.map (some b)) (stV x y) false).run Try.prog w = .ok (pvV ((f x y).getD pv0)) w := by
  obtain ⟨D, h1, hD⟩ := h
  obtain ⟨v, ps, hr, hv⟩ := h1.lookup st_keyed Try.underlying52 hz (rt_pv pv0) (keyT_is x y)
  rw [(hD x y).1] at hv
  obtain ⟨_, hy⟩ := rt_inv hv
  injection hy with hy _
  injection hy with hy
  rw [hr, ← hy]
theorem FD.put {D : DataW Value} (hD : FD D f) (hM : Maps.IsMap D) (x y : Bool) (v : PV) : FD (D.put (keyTP Try.prog 49 x y) (.held (pvV v))) (pfPut f x y v) := by
  intro a c
  unfold pfPut
  by_cases hy : a = x ∧ c = y
  · obtain ⟨rfl, rfl⟩ := hy
    obtain ⟨kl, hkl, hlit⟩ := keyT_lit a c
    rw [← hkl, if_pos ⟨rfl, rfl⟩, Maps.atKey_put_same hM hlit, Maps.has_put_same hM hlit]
    exact ⟨rfl, rfl⟩
  · have hne : keyTP Try.prog 49 a c ≠ keyTP Try.prog 49 x y := fun e => hy (keyT_inj e)
    rw [if_neg hy, Maps.atKey_put_other hne, Maps.has_put_other hne]
    exact hD a c
theorem MapT.put (h : MapT w b n f) (hn : n < maxLen) (x y : Bool) (v : PV) :
    ∃ w', (Instr.mapUpdate 52 (.map (some b)) (stV x y) (pvV v)).run Try.prog w = .ok () w' ∧ MapT w' b (n + 1) (pfPut f x y v) ∧ w.grownBy w' (some b) := by
  obtain ⟨D, h1, hD⟩ := h
  obtain ⟨w', hr, h2, hg⟩ := h1.update st_keyed Try.underlying52 hn (keyT_is x y) (rt_pv v)
  exact ⟨w', hr, ⟨_, h2, hD.put h1.isMap x y v⟩, hg⟩
def gHit (g : Bool → Bool → Bool) (x y : Bool) : Bool → Bool → Bool := fun p q => g p q && !(p == x && q == y)
structure BB where
  x : Bool
  y : Bool
def RngT (w : World) (b r n : Nat) (f : PF2) (g : Bool → Bool → Bool) (cnt : Nat) : Prop :=
  ∃ (D : DataW Value) (left : Lit → Bool), w.ranges Try.prog 49 RT b r n D left cnt ∧ FD D f ∧ (∀ x y, left (keyTP Try.prog 49 x y) = g x y) ∧ ∀ x y, g x y = true → (f x y).isSome = true
theorem RngT.keep {r cnt : Nat} {g : Bool → Bool → Bool} (h : RngT w b r n f g cnt) (h1 : w'.heap[b]? = w.heap[b]?) (h2 : w'.heap[r]? = w.heap[r]?) : RngT w' b r n f g cnt := by
  obtain ⟨D, left, ⟨es, clock, since, seen, c0, hb, F, hs, hD, hr, rest⟩, hx⟩ := h
  exact ⟨D, left, ⟨es, clock, since, seen, c0, h1.trans hb, F, hs, hD, h2.trans hr, rest⟩, hx⟩
theorem RngT.owns {r cnt : Nat} {g : Bool → Bool → Bool} (h : RngT w b r n f g cnt) : MapT w b n f := by
  obtain ⟨D, left, h1, h2, _⟩ := h
  exact ⟨D, h1.owns, h2⟩
theorem RngT.lt {r cnt : Nat} {g : Bool → Bool → Bool} (h : RngT w b r n f g cnt) : r < w.heap.size := by
  obtain ⟨D, left, ⟨es, clock, since, seen, c0, hb, F, hs, hD, hr, rest⟩, hx⟩ := h
  exact (Array.getElem?_eq_some_iff.1 hr).1
theorem RngT.left_eq {r cnt : Nat} {g : Bool → Bool → Bool} (h : RngT w b r n f g cnt) : w.rangeLeft b r = cnt := by
  obtain ⟨D, left, h1, _⟩ := h
  exact h1.left_eq
theorem RngT.notB {r cnt : Nat} {g : Bool → Bool → Bool} (h : RngT w b r n f g cnt) {b' n' : Nat} {f' : PF2} (h' : MapT w b' n' f') : b' ≠ r := by
  intro e
  subst e
  obtain ⟨D, left, ⟨es, clock, since, seen, c0, hb, F, hs, hD, hr, rest⟩, hx⟩ := h
  obtain ⟨D', ⟨es', clock', h1, _⟩, _⟩ := h'
  rw [hr] at h1; injection h1 with h1; cases h1
end
section
variable (w : World) {ops : Array Oper} {rest : List Oper} {o : Oper} {a : Act} {Q : Exit → Act → World → Prop}
theorem rangeT (hg : o.guard = none) (m : Operand) (hop : o.op = Op.range 52 m) (b n : Nat) (f : PF2) (hm : a.eval m = .map (some b)) (hown : MapT w b n f)
    (hK : ∀ w' cnt, RngT w' b w.heap.size n f (fun x y => (f x y).isSome) cnt → w.grownBy w' none → w'.heap.size = w.heap.size + 1 → wpList Try.prog ops Q rest (a.put o.dst (.pointer (some ⟨w.heap.size, 0, none⟩))) w') : wpList Try.prog ops Q (o :: rest) a w := by
  obtain ⟨D, h1, hD⟩ := hown
  refine wpList_range_own w hg m _ hop 49 51 st_keyed Try.underlying52 RT b n D hm h1 ?_
  intro w' r1 r2 r3
  exact hK w' _ ⟨D, _, r1, hD, fun x y => (hD x y).2, fun x y h => h⟩ r2 r3
theorem nextT (hg : o.guard = none) (it : Operand) (hop : o.op = Op.next it false) (b r n : Nat) (f : PF2) (g : Bool → Bool → Bool) (cnt : Nat) (hit : a.eval it = .pointer (some ⟨r, 0, none⟩)) (h : RngT w b r n f g cnt)
    (hDone : (∀ s : BB, g s.x s.y = false) → wpList Try.prog ops Q rest (a.put o.dst (.tuple #[.bool false])) w)
    (hMore : ∀ (s : BB) (A' : Option Addr) (n' c' o' : Nat) (w' : World) (cnt' : Nat), g s.x s.y = true → f s.x s.y = some (A', n', c', o') → RngT w' b r n f (gHit g s.x s.y) cnt' → cnt' < cnt → w.grownBy w' (some r) → w'.heap.size = w.heap.size →
      (Instr.entry (.pointer (some ⟨r, 0, none⟩))).run Try.prog w' = .ok (.tuple #[.agg #[.bool s.x, .bool s.y], .agg #[.slice A' n' c', .int .i64 (o' : Int)]]) w' → wpList Try.prog ops Q rest (a.put o.dst (.tuple #[.bool true, .agg #[.bool s.x, .bool s.y], .agg #[.slice A' n' c', .int .i64 (o' : Int)]])) w') : wpList Try.prog ops Q (o :: rest) a w := by
  obtain ⟨D, left, hrg, hD, hl, hgf⟩ := h
  refine wpList_next_ranges w hg it hop 49 st_keyed RT (fun x : Bool × Bool => stV x.1 x.2) pzV (fun key kl h => st_inv h) (fun v y h => (rt_inv h).1) b r n D left cnt hit hrg ?_ ?_
  · intro h0 hl0
    exact hDone fun s => by rw [← hl s.x s.y]; exact hl0 _
  · intro x c kl y w' cnt' hkey hlk hv hat hrg' hlt hgr hsz hen
    have hkl : keyTP Try.prog 49 x.1 x.2 = kl := by
      have := keyT_is x.1 x.2
      rw [hkey] at this
      injection this with this
      exact this.symm
    have hgx : g x.1 x.2 = true := by rw [← hl, hkl]; exact hlk
    have hsome := hgf _ _ hgx
    obtain ⟨v, hv2⟩ := Option.isSome_iff_exists.1 hsome
    have h1 := (hD x.1 x.2).1
    rw [hkl, hat, hv2] at h1
    obtain ⟨_, hy⟩ := rt_inv hv
    rw [hy] at h1
    have h2 : pzV c = pvV v := by injection h1
    rw [h2] at hen
    rw [h2]
    obtain ⟨A', n', c', o'⟩ := v
    refine hMore ⟨x.1, x.2⟩ A' n' c' o' w' cnt' hgx hv2 ⟨D, fun z => left z && !z.sameKey kl, hrg', hD, fun p q => ?_, fun p q hpq => ?_⟩ hlt hgr hsz hen
    · show (left _ && _) = _
      rw [hl p q]
      congr 1
      congr 1
      rw [← hkl]
      by_cases e : p = x.1 ∧ q = x.2
      · obtain ⟨e1, e2⟩ := e
        obtain ⟨kl', hk', hlit⟩ := keyT_lit x.1 x.2
        rw [e1, e2, ← hk', WideAt.sameKey_self hlit]; simp
      · have hne : keyTP Try.prog 49 p q ≠ keyTP Try.prog 49 x.1 x.2 := fun h => e (keyT_inj h)
        have h3 : (keyTP Try.prog 49 p q).sameKey (keyTP Try.prog 49 x.1 x.2) = false := by
          cases h4 : (keyTP Try.prog 49 p q).sameKey (keyTP Try.prog 49 x.1 x.2)
          · rfl
          · exact absurd (WideAt.sameKey_eq h4) hne
        rw [h3]
        have : (p == x.1 && q == x.2) = false := by
          cases h5 : (p == x.1 && q == x.2)
          · rfl
          · simp at h5; exact absurd h5 e
        rw [this]
    · have hpq2 : (g p q && !(p == x.1 && q == x.2)) = true := hpq
      rw [Bool.and_eq_true] at hpq2
      exact hgf p q hpq2.1
end
end Go.Proofs.Ytpbffbhebdcpbaa

/-
  Slices of structs of k one-cell fields: what came in, and what the call appends to. Over any program.
-/
import Derived.Test.YtpbffbhebdcpbaaOwn
import Derived.Test.YtpbffbhebdcpbaaFrame
import Derived.Deep.Slices
import Derived.Deep.Fields
import Derived.ChangeSame
set_option linter.unusedVariables false
namespace Go.Proofs.Ytpbffbhebdcpbaa
open Go.RowKit

/-- The slice value with address A and n elements of k cells each holds xss, below block B. -/
structure ReadsK (w : World) (B k : Nat) (A : Option Addr) (n : Nat) (xss : List (List Value)) : Prop where
  len : xss.length = n
  cells : 0 < n → ∃ ad, A = some ad ∧ ad.block < B ∧ ∀ i xs, xss[i]? = some xs → xs.length = k ∧ ∀ j u, xs[j]? = some u → w.cell? (ad.add (i * k + j)) = some u
section
variable {w w' : World} {B B' k n : Nat} {A : Option Addr} {xss : List (List Value)}
theorem ReadsK.none_ : ReadsK w B k A 0 [] := ⟨rfl, fun h => absurd h (by omega)⟩
theorem ReadsK.keep (h : ReadsK w B k A n xss) (hk : ∀ p : Addr, p.block < B → w'.cell? p = w.cell? p) : ReadsK w' B k A n xss :=
  ⟨h.len, fun hn => by
    obtain ⟨ad, e, hb, hc⟩ := h.cells hn
    refine ⟨ad, e, hb, fun i xs hx => ⟨(hc i xs hx).1, fun j u hu => (hk _ (by rw [block_of_add]; exact hb)).trans ((hc i xs hx).2 j u hu)⟩⟩⟩
theorem ReadsK.more (h : ReadsK w B k A n xss) (hB : B ≤ B') : ReadsK w B' k A n xss :=
  ⟨h.len, fun hn => by
    obtain ⟨ad, e, hb, hc⟩ := h.cells hn
    exact ⟨ad, e, by omega, hc⟩⟩
theorem ReadsK.below (h : ReadsK w B k A n xss) (hb : Below B w w') : ReadsK w' B k A n xss := h.keep fun _ hp => hb.cell hp
theorem ReadsK.drewN (h : ReadsK w B k A n xss) (m : Nat) : ReadsK (w.drewN m) B k A n xss := ⟨h.len, h.cells⟩
theorem ReadsK.drew (h : ReadsK w B k A n xss) : ReadsK w.drew B k A n xss := ⟨h.len, h.cells⟩
theorem ReadsK.alloc (h : ReadsK w B k A n xss) (hB : B ≤ w.heap.size) (o : Obj) : ReadsK (w.alloc o) B k A n xss := h.keep fun p hp => World.cell?_alloc_lt w o p (by omega)
theorem ReadsK.setCell (h : ReadsK w B k A n xss) {p : Addr} (hB : B ≤ p.block) (u : Value) : ReadsK (w.setCell p u) B k A n xss :=
  h.keep fun q hq => World.cell?_setCell_other w p q u (fun e => by subst e; omega)
theorem ReadsK.at_ {i : Nat} (h : ReadsK w B k A n xss) (hi : i < n) : ∃ ad xs, A = some ad ∧ ad.block < B ∧ xss[i]? = some xs ∧ xs.length = k ∧ ∀ j u, xs[j]? = some u → w.cell? (ad.add (i * k + j)) = some u := by
  obtain ⟨ad, e, hb, hc⟩ := h.cells (by omega)
  have hl : i < xss.length := by have := h.len; omega
  have hx := List.getElem?_eq_getElem hl
  exact ⟨ad, xss[i], e, hb, hx, (hc i _ hx).1, (hc i _ hx).2⟩
theorem ReadsK.take {m : Nat} (h : ReadsK w B k A n xss) (hm : m ≤ n) : ReadsK w B k A m (xss.take m) :=
  ⟨by rw [List.length_take, h.len]; omega, fun hn => by
    obtain ⟨ad, e, hb, hc⟩ := h.cells (by omega)
    refine ⟨ad, e, hb, fun i xs hx => hc i xs ?_⟩
    rw [List.getElem?_take] at hx
    split at hx
    · exact hx
    · cases hx⟩
end

theorem flat_at {k : Nat} : ∀ (xss : List (List Value)) (i j : Nat) (xs : List Value), (∀ x ∈ xss, x.length = k) → xss[i]? = some xs → j < k → xss.flatten[i * k + j]? = xs[j]?
  | [], i, j, xs, _, h, _ => by simp at h
  | x :: t, 0, j, xs, hl, h, hj => by
    simp at h
    subst h
    rw [List.flatten_cons, Nat.zero_mul, Nat.zero_add, List.getElem?_append_left (by rw [hl x (by simp)]; exact hj)]
  | x :: t, i + 1, j, xs, hl, h, hj => by
    have hx := hl x (by simp)
    rw [List.flatten_cons, List.getElem?_append_right (by rw [hx, Nat.succ_mul]; omega), hx, show (i + 1) * k + j - k = i * k + j by rw [Nat.succ_mul]; omega]
    exact flat_at t i j xs (fun y hy => hl y (List.mem_cons_of_mem _ hy)) (by simpa using h) hj
theorem flat_len {k : Nat} : ∀ (xss : List (List Value)), (∀ x ∈ xss, x.length = k) → xss.flatten.length = xss.length * k
  | [], _ => by simp
  | x :: t, hl => by
    rw [List.flatten_cons, List.length_append, hl x (by simp), flat_len t (fun y hy => hl y (List.mem_cons_of_mem _ hy)), List.length_cons, Nat.succ_mul]; omega

/-- T is the slice type whose elements, of type E, have k cells and so many bytes. -/
structure ElemK (P : Program) (T E : TypeId) (k bytes : Nat) : Prop where
  under : P.underlying T = some (.slice E)
  info : ∃ i z, P.info? E = some i ∧ i.zero = some z ∧ i.size = k ∧ i.bytes = bytes ∧ z.cells.size = k
  pos : 0 < k
theorem ElemK.mk' {P : Program} {T E : TypeId} {k bytes : Nat} {z : Value} (hu : P.underlying T = some (.slice E)) (h : (P.info? E).map (fun i => (i.zero, i.size, i.bytes)) = some (some z, k, bytes)) (hz : z.cells.size = k) (h0 : 0 < k) : ElemK P T E k bytes :=
  ⟨hu, by obtain ⟨i, a, b, c, d⟩ := info_parts h; exact ⟨i, z, a, b, c, d, hz⟩, h0⟩

/-- The slice value holds the structs xss in a row that the call made, or it is nil. -/
def OwnK (w : World) (base : Nat) (E : TypeId) (k : Nat) (v : Value) (xss : List (List Value)) : Prop := (∀ x ∈ xss, x.length = k) ∧ w.ownsRow base E k v xss.length xss.flatten
section
variable {P : Program} {w w' : World} {base k : Nat} {E T : TypeId} {v : Value} {xss : List (List Value)} {bytes : Nat}
theorem OwnK.nil (w : World) (base : Nat) (E : TypeId) (k : Nat) : OwnK w base E k (.slice none 0 0) [] := ⟨by simp, World.ownsRow_nil _ _ _ _⟩
theorem OwnK.form (h : OwnK w base E k v xss) : ∃ A c, v = .slice A xss.length c := by
  rcases h.2.2 with ⟨rfl, h0⟩ | ⟨g, cap, cur, rfl, _⟩
  · exact ⟨none, 0, by rw [h0]⟩
  · exact ⟨_, _, rfl⟩
theorem OwnK.alloc (h : OwnK w base E k v xss) (o : Obj) : OwnK (w.alloc o) base E k v xss := ⟨h.1, World.ownsRow.alloc h.2 o⟩
theorem OwnK.drewN (h : OwnK w base E k v xss) (n : Nat) : OwnK (w.drewN n) base E k v xss := by
  refine ⟨h.1, h.2.1, ?_⟩
  rcases h.2.2 with h2 | ⟨g, cap, cur, h1, h2, h3, h4⟩
  · exact .inl h2
  · exact .inr ⟨g, cap, cur, h1, h2, h3, h4⟩
theorem OwnK.lt (h : OwnK w base E k v xss) : ∀ j, v.ownBlock = some j → base ≤ j ∧ j < w.heap.size := World.ownsRow.lt h.2
theorem OwnK.below (h : OwnK w base E k v xss) {B : Nat} (hb : Below B w w') (hB : w.heap.size ≤ B) : OwnK w' base E k v xss := by
  refine ⟨h.1, h.2.1, ?_⟩
  rcases h.2.2 with h2 | ⟨g, cap, cur, h1, h2, h3, h4⟩
  · exact .inl h2
  · refine .inr ⟨g, cap, cur, h1, h2, ?_, h4⟩
    have hg : g < w.heap.size := by
      rcases Nat.lt_or_ge g w.heap.size with hlt | hge
      · exact hlt
      · rw [Array.getElem?_eq_none hge] at h3; cases h3
    rw [hb.block g (by omega)]; exact h3
theorem OwnK.kept (h : OwnK w base E k v xss) {row : Option Nat} (hg : w.grownBy w' row) (hne : v.ownBlock = none ∨ v.ownBlock ≠ row) : OwnK w' base E k v xss := ⟨h.1, World.ownsRow.kept h.2 hg hne⟩
theorem OwnK.low (h : OwnK w base E k v xss) {B : Nat} (hB : B ≤ base) : OwnK w B E k v xss := by
  refine ⟨h.1, h.2.1, ?_⟩
  rcases h.2.2 with h2 | ⟨g, cap, cur, h1, h2, h3, h4⟩
  · exact .inl h2
  · exact .inr ⟨g, cap, cur, h1, by omega, h3, h4⟩
theorem OwnK.reads {A : Option Addr} {n c : Nat} (h : OwnK w base E k (.slice A n c) xss) : ReadsK w w.heap.size k A n xss := by
  obtain ⟨A', c', e⟩ := h.form
  have hn : n = xss.length := by injection e
  subst hn
  refine ⟨rfl, fun hn => ?_⟩
  rcases h.2.2 with ⟨e', h0⟩ | ⟨g, cap, cur, e', hb, hh, hnc, hc2, hs, ht⟩
  · omega
  · have hA : A = some ⟨g, 0, none⟩ := by injection e'
    subst hA
    refine ⟨_, rfl, ?_, fun i xs hx => ⟨h.1 xs (List.mem_of_getElem? hx), fun j u hu => ?_⟩⟩
    · rcases Nat.lt_or_ge g w.heap.size with hlt | hge
      · exact hlt
      · rw [Array.getElem?_eq_none hge] at hh; cases hh
    · have hj : j < k := by rw [← h.1 xs (List.mem_of_getElem? hx)]; exact (List.getElem?_eq_some_iff.1 hu).1
      exact World.ownsRow.cells h.2 (g := g) rfl _ u ((flat_at xss i j xs h.1 hx hj).trans hu)
/-- append(v, u): the struct u was just laid into a block of its own. -/
theorem app1K {ops : Array Oper} {rest : List Oper} {o : Oper} {a : Act} {Q : Exit → Act → World → Prop} (el : ElemK P T E k bytes) (hgd : o.guard = none) (s x : Operand)
    (ho : o.op = .call { callee := .builtin .append, args := #[s, x], argTypes := #[T, T] })
    (hs : a.eval s = v) (hown : OwnK w base E k v xss) (cs : Array Value) (E' : TypeId) (hx : a.eval x = .slice (some ⟨w.heap.size, 0, none⟩) 1 1) (hk : cs.size = k) (h1 : ∀ u ∈ cs.toList, u.oneCell' = true)
    (h63 : xss.length + 1 ≤ maxLen) (hbytes : (xss.length + 1) * bytes ≤ 140737488355328) (hbase : base ≤ w.heap.size)
    (h : ∀ v' w', OwnK w' base E k v' (xss ++ [cs.toList]) → Below base w w' → w.grownBy w' v.ownBlock → (v'.ownBlock = v.ownBlock ∨ v'.ownBlock = some (w.heap.size + 1)) → wpList P ops Q rest (a.put o.dst v') w') : wpList P ops Q (o :: rest) a (w.alloc (.cells cs E')) := by
  obtain ⟨i, z, hi, hz, hsize, hby, hzs⟩ := el.info
  refine wpList_append_own_at (w.alloc (.cells cs E')) hgd s x T ho base E i z k bytes el.under hi hz hsize hby hzs el.pos v xss.length xss.flatten hs (World.ownsRow.alloc hown.2 _) ⟨w.heap.size, 0, none⟩ 1 1 cs.toList hx (by simpa using hk)
    (fun j u hu => by
      have hh : (w.alloc (.cells cs E')).heap[w.heap.size]? = some (.cells cs E' (0, 0)) := heap_alloc_new w _
      have := cell_of_row (w.alloc (.cells cs E')) w.heap.size j cs E' (0, 0) hh
      have e : (⟨w.heap.size, 0, none⟩ : Addr).add j = ⟨w.heap.size, j, none⟩ := by unfold Addr.add; split <;> simp_all
      rw [e, this]
      simpa using hu) h1 h63 hbytes (by simp; omega) ?_
  intro v' w' hown' hgrow _ hat
  have hg : w.grownBy w' v.ownBlock := by
    have h2 := World.grownBy_alloc w (.cells cs E') v.ownBlock
    refine ⟨hgrow.os.trans h2.os, hgrow.tape.trans h2.tape, hgrow.output.trans h2.output, Nat.le_trans h2.size hgrow.size, fun j hj hne => ?_⟩
    rw [hgrow.block j (by simp; omega) hne, h2.block j hj hne]
  refine h v' w' ⟨?_, ?_⟩ (grown_below hg hbase (fun j hj => (OwnK.lt hown j hj).1)) hg (by simpa using hat)
  · intro y hy
    rcases List.mem_append.1 hy with hy | hy
    · exact hown.1 y hy
    · rw [List.mem_singleton.1 hy]; simpa using hk
  · rw [List.length_append, List.flatten_append]
    simpa using hown'
end

section
open Go.ChangeShapes Go.WideShapes Go.Deep
variable {H : Type} {enc : TypeId × Value → H} {P : Program} {w : World} {base : Nat} {spare : Nat → Bool} {held : Bool}
theorem open_slice_fields {t e : TypeId} {fs : Array Field} {fuel : Nat} {cs : List Value} {x : DataW H × List MemPlace} (ht : P.underlying t = some (.slice e)) (he : P.underlying e = some (.struct fs))
    (hone : oneCellFields P fs = true) (hC : P.cellsOf e = fs.size) (h : DataW.trod enc P w base spare held fuel t cs = some x) :
    (cs = [.slice none 0 0] ∧ x = (.nil, [])) ∨
    ∃ (a : Addr) (len cap m : Nat) (D : Nat → DataW H) (Pl : Nat → List MemPlace), cs = [.slice (some a) len cap] ∧ base ≤ a.block ∧ len ≤ cap ∧ cap ≤ maxLen ∧ m = (if spare a.block then cap else len) ∧
      x = (.slice ((List.range len).map D) ((List.range (m - len)).map fun j => D (len + j)), MemPlace.row a (m * fs.size) ++ (List.range m).flatMap Pl) ∧
      ∀ i, i < m → ∃ (ys : List (DataW H × List MemPlace)) (n : Nat), D i = .agg (ys.map (·.1)) ∧ Pl i = ys.flatMap (·.2) ∧ ys.length = fs.size ∧
        ∀ (j : Nat) (f : Field), fs[j]? = some f → ∃ (v : Value) (y : DataW H × List MemPlace), w.cell? (a.add (i * fs.size + j)) = some v ∧ ys[j]? = some y ∧ DataW.trod enc P w base spare held n f.type [v] = some y := by
  rcases open_slice ht h with h0 | ⟨a, len, cap, m, n, D, Pl, hcs, hb, hl, hm, hmm, hx, hi⟩
  · exact .inl h0
  · refine .inr ⟨a, len, cap, m, D, Pl, hcs, hb, hl, hm, hmm, by rw [hC] at hx; exact hx, fun i him => ?_⟩
    obtain ⟨cs', hc, ht'⟩ := hi i him
    rw [hC] at hc
    obtain ⟨ys, n', hn', hy, hlen, hyl, hf⟩ := DataW.trod_struct he ht'
    obtain ⟨_, hcl, hat⟩ := World.cells?_some hc
    simp only [Prod.mk.injEq] at hy
    refine ⟨ys, n', hy.1, hy.2, hyl, fun j f hj => ?_⟩
    obtain ⟨ho, hk⟩ := hone_of hone j f hj
    have hjl : j < fs.size := (Array.getElem?_eq_some_iff.1 hj).1
    have hcell := hat j hjl
    have hv : cs'[j]? = some (cs'[j]'(by omega)) := List.getElem?_eq_getElem (by omega)
    have h1 := hf j f hj
    rw [ho, hk] at h1
    have hone' : (cs'.drop j).take 1 = [cs'[j]'(by omega)] := by
      rw [List.drop_eq_getElem_cons (by omega)]
      rfl
    rw [hone'] at h1
    have hys : ys[j]? = some (ys[j]'(by omega)) := List.getElem?_eq_getElem (by omega)
    refine ⟨_, _, ?_, hys, h1.trans hys⟩
    rw [← Go.Deep.add_add, hcell, hv]
/-- A slice of structs all of whose fields are integers. -/
theorem arg_structs {r : Reach} {t e : TypeId} {fs : Array Field} {v : Value} {d : DataW H} {p : List MemPlace} (ks : List IntKind) (ht : P.underlying t = some (.slice e)) (he : P.underlying e = some (.struct fs))
    (hone : oneCellFields P fs = true) (hC : P.cellsOf e = fs.size) (hk : fs.size = ks.length) (hk0 : 0 < ks.length) (hty : ∀ (j : Nat) (f : Field) (k : IntKind), fs[j]? = some f → ks[j]? = some k → P.underlying f.type = some (.int k))
    (hv : Value.okWide P w r base t v) (h : DataW.Trod enc P w 0 (fun _ => true) true t v d p) :
    ∃ (A : Option Addr) (n c : Nat) (zss : List (List Int)), v = .slice A n c ∧ ReadsK w w.heap.size ks.length A n (zss.map fun zs => List.zipWith Value.int ks zs) ∧ (∀ zs ∈ zss, zs.length = ks.length ∧ ∀ (j : Nat) (z : Int) (k : IntKind), zs[j]? = some z → ks[j]? = some k → (Lit.int k z).wf = true) ∧ n ≤ maxLen ∧
      (d = .nil ∧ n = 0 ∨ ∃ es sp, d = .slice es sp ∧ es.length = n) := by
  obtain ⟨A, n, c, rfl⟩ := okWide_slice ht hv
  obtain ⟨fuel, hf⟩ := h
  rcases open_slice_fields ht he hone hC hf with ⟨hcs, hd⟩ | ⟨x, l, c', m, D, Pl, hcs, _, hl, hm, hmm, hd, hi⟩
  · simp [Value.cells] at hcs
    obtain ⟨rfl, rfl, rfl⟩ := hcs
    exact ⟨none, 0, 0, [], rfl, ReadsK.none_, by simp, by simp [maxLen], .inl ⟨congrArg Prod.fst hd, rfl⟩⟩
  · simp [Value.cells] at hcs
    obtain ⟨rfl, rfl, rfl⟩ := hcs
    rw [if_pos rfl] at hmm
    subst hmm
    have hcell : ∀ i j, i < m → j < ks.length → ∃ z : Int, w.cell? (x.add (i * fs.size + j)) = some (.int (ks.getD j .i64) z) ∧ (Lit.int (ks.getD j .i64) z).wf = true := by
      intro i j him hj
      obtain ⟨ys, n', _, _, hyl, hfs⟩ := hi i him
      have hjf : j < fs.size := by omega
      obtain ⟨v, y, hc, hy, htr⟩ := hfs j fs[j] (Array.getElem?_eq_getElem hjf)
      have hkj : ks[j]? = some ks[j] := List.getElem?_eq_getElem hj
      obtain ⟨z, hvz, _, hw⟩ := DataW.trod_int (hty j _ _ (Array.getElem?_eq_getElem hjf) hkj) htr
      simp at hvz
      subst hvz
      refine ⟨z, ?_, ?_⟩
      · rw [hc, List.getD_eq_getElem?_getD, hkj]; rfl
      · rw [List.getD_eq_getElem?_getD, hkj]; exact hw
    have hex : ∀ ij : Nat × Nat, ∃ z : Int, ij.1 < m → ij.2 < ks.length → w.cell? (x.add (ij.1 * fs.size + ij.2)) = some (.int (ks.getD ij.2 .i64) z) ∧ (Lit.int (ks.getD ij.2 .i64) z).wf = true := by
      intro ij
      by_cases h1 : ij.1 < m
      · by_cases h2 : ij.2 < ks.length
        · obtain ⟨z, hz⟩ := hcell ij.1 ij.2 h1 h2
          exact ⟨z, fun _ _ => hz⟩
        · exact ⟨0, fun _ h => absurd h h2⟩
      · exact ⟨0, fun h => absurd h h1⟩
    obtain ⟨Z, hZ⟩ := Classical.skolem.1 hex
    have hpos : 0 < n → 0 < ks.length → x.block < w.heap.size := fun h1 h2 => by
      have := cell_lt (hZ (0, 0) (by simp; omega) h2).1
      rwa [block_of_add] at this
    refine ⟨some x, n, m, (List.range n).map fun i => (List.range ks.length).map fun j => Z (i, j), rfl, ⟨by simp, fun hn => ⟨x, rfl, ?_, ?_⟩⟩, ?_, by omega, .inr ⟨_, _, congrArg Prod.fst hd, by simp⟩⟩
    · exact hpos hn hk0
    · intro i xs hx
      rw [List.getElem?_map, List.getElem?_map] at hx
      rcases Nat.lt_or_ge i n with hin | hin
      · rw [List.getElem?_range hin] at hx
        simp at hx
        subst hx
        refine ⟨by simp, fun j u hu => ?_⟩
        rcases Nat.lt_or_ge j ks.length with hj | hj
        · rw [List.getElem?_zipWith, List.getElem?_map, List.getElem?_range hj, List.getElem?_eq_getElem hj] at hu
          simp at hu
          have := (hZ (i, j) (by simp; omega) hj).1
          rw [hk] at this
          rw [this, ← hu, List.getD_eq_getElem?_getD, List.getElem?_eq_getElem hj]; rfl
        · rw [List.getElem?_eq_none (by simp; omega)] at hu
          cases hu
      · rw [List.getElem?_eq_none (by simpa using hin)] at hx
        simp at hx
    · intro zs hzs
      obtain ⟨i, hi2, rfl⟩ := List.mem_map.1 hzs
      have hin := List.mem_range.1 hi2
      refine ⟨by simp, fun j z k hz hkj => ?_⟩
      have hj : j < ks.length := (List.getElem?_eq_some_iff.1 hkj).1
      rw [List.getElem?_map, List.getElem?_range hj] at hz
      simp at hz
      have := (hZ (i, j) (by simp; omega) hj).2
      rw [List.getD_eq_getElem?_getD, hkj] at this
      rw [← hz]; exact this
end
end Go.Proofs.Ytpbffbhebdcpbaa

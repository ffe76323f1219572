/-
  Arguments that came in, opened to what the walks are told of them: lemmas over any program.
-/
import Derived.Test.YtdidahafbcddeaaBase
import Derived.ProofKit
import Derived.OpenShut
import Derived.ShutString
import Derived.ChangeOld
import Derived.SizedLaws
import Derived.Deep.Slices
import Derived.Deep.Grids
set_option linter.unusedVariables false
namespace Go.Proofs.Ytdidahafbcddeaa
open Go.ChangeShapes Go.WideShapes Go.ChangeAt Go.RowKit

theorem cell_lt {w : World} {a : Addr} {v : Value} (h : w.cell? a = some v) : a.block < w.heap.size := by
  rcases Nat.lt_or_ge a.block w.heap.size with hlt | hge
  · exact hlt
  · simp only [World.cell?] at h
    rw [Array.getElem?_eq_none hge] at h
    split at h <;> simp_all

section
variable {H : Type} {enc : TypeId × Value → H} {P : Program} {w : World} {base : Nat} {r : Reach}
/-- A slice of integers. -/
theorem arg_ints {t e : TypeId} {k : IntKind} {v : Value} {d : DataW H} {p : List MemPlace} (ht : P.underlying t = some (.slice e)) (he : P.underlying e = some (.int k)) (hc : P.cellsOf e = 1)
    (hv : Value.okWide P w r base t v) (h : DataW.Trod enc P w 0 (fun _ => true) true t v d p) :
    ∃ (A : Option Addr) (n c : Nat) (l : List Int), v = .slice A n c ∧ Reads w w.heap.size A n (vi k l) ∧ (∀ z ∈ l, (Lit.int k z).wf = true) ∧ n ≤ maxLen ∧
      (d = .nil ∧ n = 0 ∨ ∃ es sp, d = .slice es sp ∧ es.length = n) := by
  obtain ⟨A, n, c, rfl⟩ := okWide_slice ht hv
  obtain ⟨fuel, hf⟩ := h
  rcases open_ints ht he hc hf with ⟨hcs, hd⟩ | ⟨x, l, c', zs, hcs, _, hl, hm, hz, hd, hcell, hwz⟩
  · simp [Value.cells] at hcs
    obtain ⟨rfl, rfl, rfl⟩ := hcs
    exact ⟨none, 0, 0, [], rfl, Reads.none_, by simp, by simp [maxLen], .inl ⟨congrArg Prod.fst hd, rfl⟩⟩
  · simp [Value.cells] at hcs
    obtain ⟨rfl, rfl, rfl⟩ := hcs
    have hz' : zs.length = c := by simpa using hz
    refine ⟨some x, n, c, zs.take n, rfl, ⟨by simp; omega, fun hn => ⟨x, rfl, ?_, ?_⟩⟩, fun z hz => hwz z (List.mem_of_mem_take hz), by omega, .inr ⟨_, _, congrArg Prod.fst hd, by simp [lits]; omega⟩⟩
    · have := cell_lt (hcell 0 (by omega)); rwa [block_of_add] at this
    · intro j u hu
      rw [List.getElem?_map, List.getElem?_take] at hu
      split at hu
      · rename_i hj
        have hjz : j < zs.length := by omega
        rw [List.getElem?_eq_getElem hjz] at hu
        simp at hu
        rw [hcell j hjz, ← hu]
        simp [List.getD, List.getElem?_eq_getElem hjz]
      · simp at hu
theorem nats_of {k : IntKind} (hk : k = .u32 ∨ k = .u8) (l : List Int) (h : ∀ z ∈ l, (Lit.int k z).wf = true) : ∃ l' : List Nat, vi k l = vn k l' ∧ ∀ x ∈ l', x < if k = .u8 then 256 else 4294967296 := by
  induction l with
  | nil => exact ⟨[], rfl, by simp⟩
  | cons z l ih =>
    obtain ⟨l', h1, h2⟩ := ih fun y hy => h y (List.mem_cons_of_mem _ hy)
    have hz := h z (List.mem_cons_self ..)
    refine ⟨z.toNat :: l', ?_, ?_⟩
    · have : 0 ≤ z := by
        rcases hk with rfl | rfl
        · exact (bounds_u32 hz).1
        · exact (bounds_u8 hz).1
      simp only [vi, vn, List.map_cons] at h1 ⊢
      rw [h1, Int.toNat_of_nonneg this]
    · intro x hx
      rcases List.mem_cons.1 hx with rfl | hx
      · rcases hk with rfl | rfl
        · have := bounds_u32 hz; simp; omega
        · have := bounds_u8 hz; simp; omega
      · exact h2 x hx
/-- A slice of words, or of bytes. -/
theorem arg_nats {t e : TypeId} {k : IntKind} (hk : k = .u32 ∨ k = .u8) {v : Value} {d : DataW H} {p : List MemPlace} (ht : P.underlying t = some (.slice e)) (he : P.underlying e = some (.int k)) (hc : P.cellsOf e = 1)
    (hv : Value.okWide P w r base t v) (h : DataW.Trod enc P w 0 (fun _ => true) true t v d p) :
    ∃ (A : Option Addr) (n c : Nat) (l : List Nat), v = .slice A n c ∧ Reads w w.heap.size A n (vn k l) ∧ (∀ x ∈ l, x < if k = .u8 then 256 else 4294967296) ∧ n ≤ maxLen ∧
      (d = .nil ∧ n = 0 ∨ ∃ es sp, d = .slice es sp ∧ es.length = n) := by
  obtain ⟨A, n, c, l, h1, h2, h3, h4⟩ := arg_ints ht he hc hv h
  obtain ⟨l', e, h5⟩ := nats_of hk l h3
  exact ⟨A, n, c, l', h1, by rw [← e]; exact h2, h5, h4⟩
theorem nat_u32 {a : Int} (h : (Lit.int .u32 a).wf = true) : ∃ x : Nat, a = x ∧ x < 4294967296 := by
  have := bounds_u32 h
  exact ⟨a.toNat, by omega, by omega⟩
theorem nat_u8 {a : Int} (h : (Lit.int .u8 a).wf = true) : ∃ x : Nat, a = x ∧ x < 256 := by
  have := bounds_u8 h
  exact ⟨a.toNat, by omega, by omega⟩
/-- A slice of bools. -/
theorem arg_bools {t e : TypeId} {v : Value} {d : DataW H} {p : List MemPlace} (ht : P.underlying t = some (.slice e)) (he : P.underlying e = some .bool) (hc : P.cellsOf e = 1)
    (hv : Value.okWide P w r base t v) (h : DataW.Trod enc P w 0 (fun _ => true) true t v d p) :
    ∃ (A : Option Addr) (n c : Nat) (l : List Bool), v = .slice A n c ∧ Reads w w.heap.size A n (vb l) ∧ n ≤ maxLen ∧
      (d = .nil ∧ n = 0 ∨ ∃ es sp, d = .slice es sp ∧ es.length = n) := by
  obtain ⟨A, n, c, rfl⟩ := okWide_slice ht hv
  obtain ⟨fuel, hf⟩ := h
  rcases Go.Deep.open_bools ht he hc hf with ⟨hcs, hd⟩ | ⟨x, l, c', B, hcs, _, hl, hm, hd, hcell⟩
  · simp [Value.cells] at hcs
    obtain ⟨rfl, rfl, rfl⟩ := hcs
    exact ⟨none, 0, 0, [], rfl, Reads.none_, by simp [maxLen], .inl ⟨congrArg Prod.fst hd, rfl⟩⟩
  · simp [Value.cells] at hcs
    obtain ⟨rfl, rfl, rfl⟩ := hcs
    refine ⟨some x, n, c, (List.range n).map B, rfl, ⟨by simp, fun hn => ⟨x, rfl, ?_, ?_⟩⟩, by omega, .inr ⟨_, _, congrArg Prod.fst hd, by simp⟩⟩
    · have := cell_lt (hcell 0 (by omega)); rwa [block_of_add] at this
    · intro j u hu
      rw [List.getElem?_map, List.getElem?_map] at hu
      rcases Nat.lt_or_ge j n with hj | hj
      · rw [List.getElem?_range hj] at hu
        simp at hu
        rw [hcell j (by omega), ← hu]
      · rw [List.getElem?_eq_none (by simpa using hj)] at hu
        simp at hu
end

/-- A slice of slices of bools. -/
def Reads2 (w : World) (B : Nat) (A : Option Addr) (n : Nat) (ls : List (List Bool)) : Prop :=
  ∃ vs : List Value, Reads w B A n vs ∧ vs.length = ls.length ∧ ∀ (k : Nat) (l : List Bool), ls[k]? = some l → ∃ (A' : Option Addr) (n' c' : Nat), vs[k]? = some (Value.slice A' n' c') ∧ Reads w B A' n' (vb l) ∧ n' ≤ maxLen

/-- The same, each row's length within its capacity. -/
def Reads2c (w : World) (B : Nat) (A : Option Addr) (n : Nat) (ls : List (List Bool)) : Prop :=
  ∃ vs : List Value, Reads w B A n vs ∧ vs.length = ls.length ∧ ∀ (k : Nat) (l : List Bool), ls[k]? = some l → ∃ (A' : Option Addr) (n' c' : Nat), vs[k]? = some (Value.slice A' n' c') ∧ Reads w B A' n' (vb l) ∧ n' ≤ maxLen ∧ n' ≤ c'
theorem Reads2c.plain {w : World} {B : Nat} {A : Option Addr} {n : Nat} {ls : List (List Bool)} (h : Reads2c w B A n ls) : Reads2 w B A n ls := by
  obtain ⟨vs, hv, hl, he⟩ := h
  exact ⟨vs, hv, hl, fun k l hk => by obtain ⟨A', n', c', h1, h2, h3, _⟩ := he k l hk; exact ⟨A', n', c', h1, h2, h3⟩⟩
section
variable {H : Type} {enc : TypeId × Value → H} {P : Program} {w : World} {base : Nat} {r : Reach}
theorem arg_rowsc {t e q : TypeId} {v : Value} {d : DataW H} {p : List MemPlace} (ht : P.underlying t = some (.slice e)) (he : P.underlying e = some (.slice q)) (hq : P.underlying q = some .bool)
    (ce : P.cellsOf e = 1) (cq : P.cellsOf q = 1)
    (hv : Value.okWide P w r base t v) (h : DataW.Trod enc P w 0 (fun _ => true) true t v d p) :
    ∃ (A : Option Addr) (n c : Nat) (ls : List (List Bool)), v = .slice A n c ∧ Reads2c w w.heap.size A n ls ∧ n ≤ maxLen ∧
      (d = .nil ∧ n = 0 ∨ ∃ es sp, d = .slice es sp ∧ es.length = n) := by
  obtain ⟨A, n, c, rfl⟩ := okWide_slice ht hv
  obtain ⟨fuel, hf⟩ := h
  rcases Go.Deep.open_bool_rows ht he hq ce cq hf with ⟨hcs, hd⟩ | ⟨x, l, c', RA, L, C, B, hcs, _, hl, hm, hd, hcell⟩
  · simp [Value.cells] at hcs
    obtain ⟨rfl, rfl, rfl⟩ := hcs
    exact ⟨none, 0, 0, [], rfl, ⟨[], Reads.none_, rfl, fun k l h => by simp at h⟩, by simp [maxLen], .inl ⟨congrArg Prod.fst hd, rfl⟩⟩
  · simp [Value.cells] at hcs
    obtain ⟨rfl, rfl, rfl⟩ := hcs
    refine ⟨some x, n, c, (List.range n).map fun i => (List.range (L i)).map (B i), rfl, ⟨(List.range n).map fun i => Value.slice (RA i) (L i) (C i), ⟨by simp, fun hn => ⟨x, rfl, ?_, ?_⟩⟩, by simp, ?_⟩, by omega, .inr ⟨_, _, congrArg Prod.fst hd, by simp⟩⟩
    · have := cell_lt (hcell 0 (by omega)).1; rwa [block_of_add] at this
    · intro j u hu
      rw [List.getElem?_map] at hu
      rcases Nat.lt_or_ge j n with hj | hj
      · rw [List.getElem?_range hj] at hu
        simp at hu
        rw [(hcell j (by omega)).1, ← hu]
      · rw [List.getElem?_eq_none (by simpa using hj)] at hu
        simp at hu
    · intro k l hkl
      rw [List.getElem?_map] at hkl
      rcases Nat.lt_or_ge k n with hk | hk
      · rw [List.getElem?_range hk] at hkl
        simp at hkl
        obtain ⟨h1, h2, h3, h4, h5⟩ := hcell k (by omega)
        refine ⟨RA k, L k, C k, by rw [List.getElem?_map, List.getElem?_range hk]; rfl, ⟨by simp [← hkl], fun hn => ?_⟩, by omega, h2⟩
        match hA : RA k, h4, h5 with
        | none, h4, _ => have := h4 rfl; omega
        | some a', _, h5 =>
          obtain ⟨_, hb⟩ := h5 a' rfl
          refine ⟨a', rfl, ?_, ?_⟩
          · have := cell_lt (hb 0 (by omega)); rwa [block_of_add] at this
          · intro j u hu
            rw [← hkl, List.getElem?_map, List.getElem?_map] at hu
            rcases Nat.lt_or_ge j (L k) with hj | hj
            · rw [List.getElem?_range hj] at hu
              simp at hu
              rw [hb j (by omega), ← hu]
            · rw [List.getElem?_eq_none (by simpa using hj)] at hu
              simp at hu
      · rw [List.getElem?_eq_none (by simpa using hk)] at hkl
        simp at hkl
theorem arg_rows {t e q : TypeId} {v : Value} {d : DataW H} {p : List MemPlace} (ht : P.underlying t = some (.slice e)) (he : P.underlying e = some (.slice q)) (hq : P.underlying q = some .bool)
    (ce : P.cellsOf e = 1) (cq : P.cellsOf q = 1)
    (hv : Value.okWide P w r base t v) (h : DataW.Trod enc P w 0 (fun _ => true) true t v d p) :
    ∃ (A : Option Addr) (n c : Nat) (ls : List (List Bool)), v = .slice A n c ∧ Reads2 w w.heap.size A n ls ∧ n ≤ maxLen ∧
      (d = .nil ∧ n = 0 ∨ ∃ es sp, d = .slice es sp ∧ es.length = n) := by
  obtain ⟨A, n, c, rfl⟩ := okWide_slice ht hv
  obtain ⟨fuel, hf⟩ := h
  rcases Go.Deep.open_bool_rows ht he hq ce cq hf with ⟨hcs, hd⟩ | ⟨x, l, c', RA, L, C, B, hcs, _, hl, hm, hd, hcell⟩
  · simp [Value.cells] at hcs
    obtain ⟨rfl, rfl, rfl⟩ := hcs
    exact ⟨none, 0, 0, [], rfl, ⟨[], Reads.none_, rfl, fun k l h => by simp at h⟩, by simp [maxLen], .inl ⟨congrArg Prod.fst hd, rfl⟩⟩
  · simp [Value.cells] at hcs
    obtain ⟨rfl, rfl, rfl⟩ := hcs
    refine ⟨some x, n, c, (List.range n).map fun i => (List.range (L i)).map (B i), rfl, ⟨(List.range n).map fun i => Value.slice (RA i) (L i) (C i), ⟨by simp, fun hn => ⟨x, rfl, ?_, ?_⟩⟩, by simp, ?_⟩, by omega, .inr ⟨_, _, congrArg Prod.fst hd, by simp⟩⟩
    · have := cell_lt (hcell 0 (by omega)).1; rwa [block_of_add] at this
    · intro j u hu
      rw [List.getElem?_map] at hu
      rcases Nat.lt_or_ge j n with hj | hj
      · rw [List.getElem?_range hj] at hu
        simp at hu
        rw [(hcell j (by omega)).1, ← hu]
      · rw [List.getElem?_eq_none (by simpa using hj)] at hu
        simp at hu
    · intro k l hkl
      rw [List.getElem?_map] at hkl
      rcases Nat.lt_or_ge k n with hk | hk
      · rw [List.getElem?_range hk] at hkl
        simp at hkl
        obtain ⟨h1, h2, h3, h4, h5⟩ := hcell k (by omega)
        refine ⟨RA k, L k, C k, by rw [List.getElem?_map, List.getElem?_range hk]; rfl, ⟨by simp [← hkl], fun hn => ?_⟩, by omega⟩
        match hA : RA k, h4, h5 with
        | none, h4, _ => have := h4 rfl; omega
        | some a', _, h5 =>
          obtain ⟨_, hb⟩ := h5 a' rfl
          refine ⟨a', rfl, ?_, ?_⟩
          · have := cell_lt (hb 0 (by omega)); rwa [block_of_add] at this
          · intro j u hu
            rw [← hkl, List.getElem?_map, List.getElem?_map] at hu
            rcases Nat.lt_or_ge j (L k) with hj | hj
            · rw [List.getElem?_range hj] at hu
              simp at hu
              rw [hb j (by omega), ← hu]
            · rw [List.getElem?_eq_none (by simpa using hj)] at hu
              simp at hu
      · rw [List.getElem?_eq_none (by simpa using hk)] at hkl
        simp at hkl
/-- A slice's length lies within its capacity. -/
theorem arg_cap {t e : TypeId} {A : Option Addr} {n c : Nat} {d : DataW H} {p : List MemPlace} (ht : P.underlying t = some (.slice e)) (h : DataW.Trod enc P w 0 (fun _ => true) true t (.slice A n c) d p) : n ≤ c := by
  obtain ⟨fuel, hf⟩ := h
  rcases Go.Deep.open_slice ht hf with ⟨hcs, _⟩ | ⟨a, len, cap, m, k, D, Pl, hcs, _, hl, _⟩
  · simp [Value.cells] at hcs
    omega
  · simp [Value.cells] at hcs
    omega
theorem sized_arg {ts : List TypeId} {ds : List (DataW H)} {j n : Nat} {t e : TypeId} {d : DataW H} (h : (DataW.weightsEach P ts ds).all (· ≤ reachBytes) = true) (ht : ts[j]? = some t) (hd : ds[j]? = some d) (hu : P.underlying t = some (.slice e))
    (hs : d = .nil ∧ n = 0 ∨ ∃ es sp, d = .slice es sp ∧ es.length = n) : n * P.bytesOf e ≤ reachBytes := by
  rcases hs with ⟨_, rfl⟩ | ⟨es, sp, rfl, rfl⟩
  · simp
  · have := sized_slice h ht hd hu
    refine Nat.le_trans (Nat.mul_le_mul_right _ (Nat.le_add_right _ _)) this
end
end Go.Proofs.Ytdidahafbcddeaa

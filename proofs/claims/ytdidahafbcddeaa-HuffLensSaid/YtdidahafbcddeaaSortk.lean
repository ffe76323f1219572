/-
  The library's insertion sort of structs over a row of the call's own. Over any program.
-/
import Derived.Test.YtdidahafbcddeaaCh
import Derived.Shelf.SlSortCmp.InsertionK
import Derived.Sort.LotA
set_option linter.unusedVariables false
namespace Go.Proofs.Ytdidahafbcddeaa
open Go.RowKit Go.Shelf Go.Sort

section
variable {α : Type} [Inhabited α]
theorem flatK_at (enc : α → List Value) {k : Nat} (hk : ∀ x, (enc x).length = k) (d : Array α) {t : Nat} (ht : t < d.size * k) : (d.toList.map enc).flatten[t]? = some ((flatK enc k d)[t]!) := by
  have k0 : 0 < k := by
    rcases Nat.eq_zero_or_pos k with h | h
    · subst h; simp at ht
    · exact h
  have hi : t / k < d.size := Nat.div_lt_of_lt_mul (by rw [Nat.mul_comm]; exact ht)
  have hj : t % k < k := Nat.mod_lt _ k0
  have hx : (d.toList.map enc)[t / k]? = some (enc d[t / k]!) := by
    rw [List.getElem?_map, Array.getElem?_toList, Array.getElem?_eq_getElem hi, getElem!_pos d _ hi]; rfl
  have h1 := flat_at (d.toList.map enc) (t / k) (t % k) (enc d[t / k]!) (fun y hy => by obtain ⟨z, _, rfl⟩ := List.mem_map.1 hy; exact hk z) hx hj
  rw [show t / k * k + t % k = t by rw [Nat.mul_comm]; exact Nat.div_add_mod t k] at h1
  rw [h1, get_flatK enc k d t ht, List.getElem?_eq_getElem (by rw [hk]; exact hj), getElem!_pos (enc d[t / k]!) (t % k) (by rw [hk]; exact hj)]
variable {w w' : World} {base k g off n c : Nat} {E : TypeId} {enc : α → List Value} {d : Array α}
theorem OwnQ.holdsK (hk : ∀ x, (enc x).length = k) (h : OwnQ w base E k (.slice (some ⟨g, off, none⟩) n c) (d.toList.map enc)) : HoldsK enc k w g off d ∧ g < w.heap.size := by
  rcases h.2 with ⟨e, _⟩ | ⟨g', off', c', cur, e, e2, e3, e4, e5, e6, e7⟩
  · cases e
  · injection e with e _ _
    injection e with e
    injection e with e1 e8
    subst e1
    subst e8
    refine ⟨fun j hj => ?_, (Array.getElem?_eq_some_iff.1 e3).1⟩
    have hj2 : j < d.size * k := by simpa using hj
    have h7 := e7 j (by simpa using hj2)
    rw [flatK_at enc hk d hj2] at h7
    constructor
    · show w.cell? ⟨g, off + j, none⟩ = _
      simp [World.cell?, e3, h7]
    · simp [World.frozen?, e3]
theorem putCells_at (F cur : Array Value) (off t : Nat) : (putCells id off F cur)[t]? = if off ≤ t ∧ t < off + F.size ∧ t < cur.size then some F[t - off]! else cur[t]? := by
  unfold putCells
  rw [Array.getElem?_mapIdx]
  by_cases ht : t < cur.size
  · rw [Array.getElem?_eq_getElem ht, Option.map_some]
    by_cases h : off ≤ t ∧ t < off + F.size
    · rw [if_pos h, if_pos ⟨h.1, h.2, ht⟩]; rfl
    · rw [if_neg h, if_neg (fun e => h ⟨e.1, e.2.1⟩)]
  · rw [Array.getElem?_eq_none (by omega), if_neg (fun e => ht e.2.2)]; rfl
theorem OwnQ.sorted (hk : ∀ x, (enc x).length = k) (h : OwnQ w base E k (.slice (some ⟨g, off, none⟩) n c) (d.toList.map enc)) {d' : Array α} (hs : d'.size = d.size) (m : Nat) (os : Array Obj) :
    OwnQ (sortWorldK enc k w g off m d' os) base E k (.slice (some ⟨g, off, none⟩) n c) (d'.toList.map enc) ∧ Ch w (sortWorldK enc k w g off m d' os) (fun b => b = g) := by
  rcases h.2 with ⟨e, _⟩ | ⟨g', off', c', cur, e, e2, e3, e4, e5, e6, e7⟩
  · cases e
  · injection e with e en ec
    injection e with e
    injection e with e1 e8
    subst e1
    subst e8
    subst ec
    have hg := (Array.getElem?_eq_some_iff.1 e3).1
    have hlen : (d.toList.map enc).length = d.size := by simp
    rw [hlen] at en e4 e7
    have hg2 : g < (putRowK enc k (Sort.ahead w m) g off d').heap.size := by rw [size_putRowK]; exact hg
    have hh : (sortWorldK enc k w g off m d' os).heap[g]? = some (.cells (putCells id off (flatK enc k d') cur) E (0, 0)) := by
      unfold sortWorldK
      rw [heap_grow_old _ os hg2]
      unfold putRowK putRow mapBlock
      rw [Array.getElem?_modify]
      show (if g = g then Option.map _ w.heap[g]? else _) = _
      rw [if_pos rfl, e3]
      rfl
    refine ⟨⟨fun x hx => by obtain ⟨z, _, rfl⟩ := List.mem_map.1 hx; exact hk z, .inr ⟨g, off, c, _, by rw [en]; simp [hs], e2, hh, by simp [hs]; exact e4, e5, by simpa [putCells] using e6, fun j hj => ?_⟩⟩, ?_⟩
    · have hj2 : j < d'.size * k := by simpa using hj
      have hdc : d.size * k ≤ c * k := Nat.mul_le_mul_right _ e4
      rw [putCells_at, if_pos ⟨by omega, by simp; omega, by rw [hs] at hj2; omega⟩, flatK_at enc hk d' hj2]
      congr 2
      omega
    · refine ⟨rfl, rfl, rfl, ?_, fun b hb hn => ?_⟩
      · unfold sortWorldK; rw [size_grow, size_putRowK]; exact Nat.le_add_right _ _
      · unfold sortWorldK
        rw [heap_grow_old _ os (by rw [size_putRowK]; exact hb)]
        unfold putRowK putRow mapBlock
        rw [Array.getElem?_modify]
        show (if g = b then _ else w.heap[b]?) = _
        rw [if_neg (fun e => hn e.symm)]
theorem perm_of (d d' : Array α) (h : PermIn 0 d.size d d') : d'.toList.Perm d.toList ∧ d'.size = d.size := by
  obtain ⟨h1, _, h2⟩ := h
  refine ⟨?_, h1⟩
  rw [show d'.extract 0 d.size = d' by rw [← h1]; simp, show d.extract 0 d.size = d by simp] at h2
  exact h2
end
end Go.Proofs.Ytdidahafbcddeaa

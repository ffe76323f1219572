/-
  A table of rows of bytes that the call has made, its rows stored by index; insertion of rows.
-/
import Derived.Test.YtdidahafbcddeaaTuv
import Derived.Sort.LotA
set_option linter.unusedVariables false
namespace Go.Proofs.Ytdidahafbcddeaa
open Go.RowKit Go.Shelf Go.Sort

/-- the table lies in block g; its rows lie elsewhere -/
def OwnT (w : World) (base g n : Nat) (rows : List (List Nat)) : Prop :=
  ∃ vs, Own w base 42 (.slice (some ⟨g, 0, none⟩) n n) vs ∧ vs.length = rows.length ∧
    ∀ (k : Nat) (x : List Nat), rows[k]? = some x → ∃ (A : Option Addr) (m c : Nat), vs[k]? = some (Value.slice A m c) ∧ Reads w w.heap.size A m (vn .u8 x) ∧ m ≤ c ∧ ∀ ad, A = some ad → ad.block ≠ g ∧ ad.block < w.heap.size
section
variable {w w' : World} {base g n : Nat} {rows : List (List Nat)}
theorem OwnT.len (h : OwnT w base g n rows) : rows.length = n := by
  obtain ⟨vs, ho, hl, _⟩ := h
  rw [← hl, ho.len]
theorem OwnT.below (h : OwnT w base g n rows) (hb : Below w.heap.size w w') : OwnT w' base g n rows := by
  obtain ⟨vs, ho, hl, hr⟩ := h
  refine ⟨vs, ho.below hb (Nat.le_refl _), hl, fun k x hk => ?_⟩
  obtain ⟨A, m, c, h1, h2, h3, h4⟩ := hr k x hk
  exact ⟨A, m, c, h1, (h2.below hb).more hb.size, h3, fun ad ha => ⟨(h4 ad ha).1, Nat.lt_of_lt_of_le (h4 ad ha).2 hb.size⟩⟩
theorem OwnT.drewN (h : OwnT w base g n rows) (q : Nat) : OwnT (w.drewN q) base g n rows := h.below (below_drewN (Below.refl _ _) q)
theorem OwnT.row (h : OwnT w base g n rows) {k : Nat} {x : List Nat} (hk : rows[k]? = some x) :
    ∃ A c, w.cell? ⟨g, k, none⟩ = some (.slice A x.length c) ∧ Reads w w.heap.size A x.length (vn .u8 x) ∧ x.length ≤ c ∧ ∀ ad, A = some ad → ad.block ≠ g ∧ ad.block < w.heap.size := by
  obtain ⟨vs, ho, hl, hr⟩ := h
  obtain ⟨A, m, c, h1, h2, h3, h4⟩ := hr k x hk
  obtain rfl : x.length = m := h2.nat_len
  have hc := ho.cell h1
  rw [add_row] at hc
  exact ⟨A, c, hc, h2, h3, h4⟩
theorem OwnT.free (h : OwnT w base g n rows) (k : Nat) : w.frozen? ⟨g, k, none⟩ = false := by
  obtain ⟨vs, ho, _⟩ := h
  have := ho.frozenAt k
  rwa [add_row] at this
theorem OwnT.lt (h : OwnT w base g n rows) : base ≤ g ∧ g < w.heap.size := by
  obtain ⟨vs, ho, _⟩ := h
  exact Own.lt ho g rfl
theorem Reads.setNe {B m : Nat} {A : Option Addr} {xs : List Value} {p : Addr} (h : Reads w B A m xs) (u : Value) (hA : ∀ ad, A = some ad → ad.block ≠ p.block) : Reads (w.setCell p u) B A m xs :=
  ⟨h.len, fun hn => by
    obtain ⟨ad, e, hb, hc⟩ := h.cells hn
    refine ⟨ad, e, hb, fun j v hv => ?_⟩
    rw [World.cell?_setCell_other w p (ad.add j) u (fun e2 => hA ad e (by rw [← block_of_add ad j, e2]))]
    exact hc j v hv⟩
theorem OwnT.set (h : OwnT w base g n rows) (i : Nat) {A : Option Addr} {c : Nat} {x : List Nat} (hx : Reads w w.heap.size A x.length (vn .u8 x)) (hc : x.length ≤ c) (hA : ∀ ad, A = some ad → ad.block ≠ g ∧ ad.block < w.heap.size) :
    OwnT (w.setCell ⟨g, i, none⟩ (.slice A x.length c)) base g n (rows.set i x) := by
  obtain ⟨vs, ho, hl, hr⟩ := h
  have h1 := ho.set i (.slice A x.length c)
  rw [add_row] at h1
  have hsz : (w.setCell ⟨g, i, none⟩ (.slice A x.length c)).heap.size = w.heap.size := World.size_setCell _ _ _
  refine ⟨_, h1, by rw [List.length_set, List.length_set, hl], fun k y hk => ?_⟩
  rw [List.getElem?_set] at hk ⊢
  by_cases e : i = k
  · subst e
    rw [if_pos rfl] at hk ⊢
    split at hk
    · rename_i hlt
      injection hk with hk
      subst hk
      rw [if_pos (by omega), hsz]
      exact ⟨A, x.length, c, rfl, hx.setNe _ (fun ad ha => (hA ad ha).1), hc, hA⟩
    · cases hk
  · rw [if_neg e] at hk ⊢
    obtain ⟨A', m, c', e1, e2, e3, e4⟩ := hr k y hk
    rw [hsz]
    exact ⟨A', m, c', e1, e2.setNe _ (fun ad ha => (e4 ad ha).1), e3, e4⟩
theorem OwnT.setBelow (h : OwnT w base g n rows) (i : Nat) (u : Value) : Below base w (w.setCell ⟨g, i, none⟩ u) := (Below.refl base w).setCell (by show base ≤ g; exact h.lt.1) u
theorem OwnT.made (ho : Own w base 42 (.slice (some ⟨g, 0, none⟩) n n) (List.replicate n (.slice none 0 0))) : OwnT w base g n (List.replicate n []) := by
  refine ⟨_, ho, by simp, fun k x hk => ?_⟩
  rw [List.getElem?_replicate] at hk
  split at hk
  · rename_i hlt
    injection hk with hk
    subst hk
    exact ⟨none, 0, 0, by rw [List.getElem?_replicate, if_pos hlt], ⟨rfl, fun h => absurd h (by omega)⟩, Nat.le_refl _, fun ad ha => by cases ha⟩
  · cases hk
end
/-- rows by their numbers -/
def ltV (x y : List Nat) : Bool := decide (nv x < nv y)
theorem swo_ltV : SWO ltV where
  irrefl x := by simp [ltV]
  trans x y z h1 h2 := by simp only [ltV, decide_eq_true_eq] at *; omega
  ntrans x y z h1 h2 := by simp only [ltV, decide_eq_false_iff_not] at *; omega
/-- all rows hold k bytes -/
def RowsK (n k : Nat) (d : Array (List Nat)) : Prop := d.size = n ∧ ∀ i, i < n → (d[i]!).length = k ∧ Byt d[i]!
theorem swp_list (d : Array (List Nat)) (i j : Nat) : (swp d i j).toList = (d.toList.set i d[j]!).set j d[i]! := by simp [swp]
theorem RowsK.at_ {n k i : Nat} {d : Array (List Nat)} (h : RowsK n k d) (hi : i < n) : d.toList[i]? = some d[i]! := by
  rw [Array.getElem?_toList, Array.getElem?_eq_getElem (by rw [h.1]; exact hi), getElem!_pos d i (by rw [h.1]; exact hi)]
theorem RowsK.perm {n k : Nat} {d d' : Array (List Nat)} (h : RowsK n k d) (hp : PermIn 0 n d d') : RowsK n k d' :=
  ⟨hp.1.trans h.1, fun i hi => permIn_all d d' 0 n (fun x => x.length = k ∧ Byt x) (by rw [h.1]; exact Nat.le_refl _) hp (fun j _ hj => h.2 j hj) i (Nat.zero_le _) hi⟩
theorem swap_rows {w : World} {base g n k i j : Nat} {d : Array (List Nat)} (h : OwnT w base g n d.toList) (hd : RowsK n k d) (hi : i < n) (hj : j < n) {Ai Aj : Option Addr} {ci cj : Nat}
    (ri : Reads w w.heap.size Ai k (vn .u8 d[i]!)) (rj : Reads w w.heap.size Aj k (vn .u8 d[j]!)) (hci : k ≤ ci) (hcj : k ≤ cj) (hai : ∀ ad, Ai = some ad → ad.block ≠ g ∧ ad.block < w.heap.size) (haj : ∀ ad, Aj = some ad → ad.block ≠ g ∧ ad.block < w.heap.size) :
    OwnT ((w.setCell ⟨g, i, none⟩ (.slice Aj k cj)).setCell ⟨g, j, none⟩ (.slice Ai k ci)) base g n (swp d i j).toList := by
  obtain ⟨li, _⟩ := hd.2 i hi
  obtain ⟨lj, _⟩ := hd.2 j hj
  have h1 := h.set i (A := Aj) (c := cj) (x := d[j]!) (by rw [lj]; exact rj) (by rw [lj]; exact hcj) haj
  rw [lj] at h1
  have hsz : (w.setCell ⟨g, i, none⟩ (.slice Aj k cj)).heap.size = w.heap.size := World.size_setCell _ _ _
  have h2 := h1.set j (A := Ai) (c := ci) (x := d[i]!) (by rw [li, hsz]; exact ri.setNe _ (fun ad ha => (hai ad ha).1)) (by rw [li]; exact hci) (by rw [hsz]; exact hai)
  rw [li] at h2
  rw [swp_list]
  exact h2
/-- the first i rows have got their byte -/
def mixR (last : List Nat) (d : Array (List Nat)) (n i : Nat) : Array (List Nat) := ((List.range n).map fun j => if j < i then last.getD j 0 :: d[j]! else d[j]!).toArray
theorem mixR_at {last : List Nat} {d : Array (List Nat)} {n i j : Nat} (hj : j < n) : (mixR last d n i)[j]! = if j < i then last.getD j 0 :: d[j]! else d[j]! := by
  unfold mixR
  rw [getElem!_pos ((List.range n).map fun j => if j < i then last.getD j 0 :: d[j]! else d[j]!).toArray j (by simpa using hj)]
  simp
theorem mixR_zero {last : List Nat} {d : Array (List Nat)} {n : Nat} (hn : d.size = n) : mixR last d n 0 = d := by
  apply Array.ext
  · unfold mixR; simp [hn]
  · intro i h1 h2
    have := mixR_at (last := last) (d := d) (n := n) (i := 0) (j := i) (by omega)
    rw [if_neg (by omega), getElem!_pos (mixR last d n 0) i h1, getElem!_pos d i h2] at this
    exact this
theorem mixR_next {last : List Nat} {d : Array (List Nat)} {n i : Nat} (hi : i < n) : (mixR last d n i).toList.set i (last.getD i 0 :: d[i]!) = (mixR last d n (i + 1)).toList := by
  unfold mixR
  apply List.ext_getElem (by simp)
  intro j h1 h2
  rw [List.getElem_set]
  simp only [List.getElem_map, List.getElem_range]
  by_cases e : i = j
  · subst e; rw [if_pos rfl, if_pos (by omega)]
  · rw [if_neg e]
    by_cases c : j < i
    · rw [if_pos c, if_pos (by omega)]
    · rw [if_neg c, if_neg (by omega)]
theorem mixR_full {last : List Nat} {d : Array (List Nat)} {n k : Nat} (hl : last.length = n) (hB : Byt last) (hd : RowsK n k d) : (mixR last d n n).toList = List.zipWith (fun x y => x :: y) last d.toList ∧ RowsK n (k + 1) (mixR last d n n) := by
  have hds := hd.1
  refine ⟨?_, by unfold mixR; simp, fun i hi => ?_⟩
  · unfold mixR
    apply List.ext_getElem (by simp; omega)
    intro j h1 h2
    have hj : j < n := by simpa using h1
    simp only [List.getElem_map, List.getElem_range, List.getElem_zipWith]
    rw [if_pos hj, List.getD_eq_getElem?_getD, List.getElem?_eq_getElem (by omega), getElem!_pos d j (by omega)]
    simp
  · rw [mixR_at hi, if_pos hi]
    refine ⟨by rw [List.length_cons, (hd.2 i hi).1], Byt.cons ?_ (hd.2 i hi).2⟩
    rw [List.getD_eq_getElem?_getD, List.getElem?_eq_getElem (by omega)]
    exact hB _ (List.getElem_mem _)
/-- a round of the table, as the reference goes it -/
theorem round_tab {last : List Nat} {d d' : Array (List Nat)} {n k a : Nat} (hl : last.length = n) (hB : Byt last) (hd : RowsK n k d) (hk : k < n) (ht : TabR last a k d.toList) (hp : PermIn 0 n (mixR last d n n) d') (hs : SortedIn ltV 0 n d') : RowsK n (k + 1) d' ∧ TabR last a (k + 1) d'.toList := by
  obtain ⟨e, hm⟩ := mixR_full hl hB hd
  have hd' := hm.perm hp
  refine ⟨hd', tab_step ht (by omega) ?_ ?_⟩
  · rw [← e]
    have hx : ∀ (X : Array (List Nat)) (m : Nat), X.size = m → X.extract 0 m = X := fun X m h => by subst h; exact Array.extract_size
    have h3 := hp.2.2
    rwa [hx _ _ hd'.1, hx _ _ hm.1] at h3
  · rw [List.pairwise_iff_getElem]
    intro i j hi hj hij
    have hi' : i < d'.size := by simpa using hi
    have hj' : j < d'.size := by simpa using hj
    have := hs i j (Nat.zero_le _) hij (by rw [← hd'.1]; exact hj')
    rw [getElem!_pos d' j hj', getElem!_pos d' i hi'] at this
    simp only [ltV, decide_eq_false_iff_not] at this
    simp only [Array.getElem_toList]
    omega
end Go.Proofs.Ytdidahafbcddeaa

/-
  unique.key, and a map from such keys to counts; the words that find walks by: what it appends to, what it may change.
-/
import Derived.Test.YtpbffbhebdcpbaaUnl
import Derived.Test.YtpbffbhebdcpbaaStore
import Derived.Test.YtpbffbhebdcpbaaCh
import Derived.Laws.IdiomStrings
import Derived.Maps.Own
import Derived.Maps.OwnSet
import Derived.Maps.Views
set_option linter.unusedVariables false
namespace Go.Proofs.Ytpbffbhebdcpbaa
open Go.RowKit
open Go.Maps (Keyed)

/-- a key's bytes -/
def kb (r : List Bool) : List UInt8 := r.map fun b => if b then 1 else 0
theorem kb_inj : ∀ {r s : List Bool}, kb r = kb s → r = s
  | [], [], _ => rfl
  | [], _ :: _, h => by simp [kb] at h
  | _ :: _, [], h => by simp [kb] at h
  | a :: r, b :: s, h => by
    have h1 : kb (a :: r) = (if a then 1 else 0) :: kb r := rfl
    have h2 : kb (b :: s) = (if b then 1 else 0) :: kb s := rfl
    rw [h1, h2] at h
    injection h with h3 h4
    rw [kb_inj h4]
    congr 1
    cases a <;> cases b <;> first | rfl | (exact absurd h3 (by decide))
def kS (r : List Bool) : ByteArray := ⟨(kb r).toArray⟩
theorem kS_len (r : List Bool) : (kS r).size = r.length := by show (kb r).toArray.size = _; simp [kb]
theorem el_u8U : Elem Try.prog 88 5 (.int .u8 0) 1 := Elem.mk' Try.underlying88 (by kernel_rfl) rfl
def kV (n : Nat) (r : List Bool) (k : Nat) : List Nat := fillTo (fun j => if r.getD j false then 1 else 0) 0 n k
theorem kV_full {n : Nat} {r : List Bool} (h : r.length = n) : kV n r n = (kb r).map UInt8.toNat := by
  unfold kV
  rw [fillTo_full]
  apply List.ext_getElem?
  intro j
  rw [List.getElem?_map, List.getElem?_map]
  unfold kb
  rw [List.getElem?_map]
  by_cases hj : j < n
  · have hx : r[j]? = some r[j] := List.getElem?_eq_getElem (by omega)
    have hd : r.getD j false = r[j] := by rw [List.getD_eq_getElem?_getD, hx]; rfl
    rw [List.getElem?_range hj, hx]
    simp only [Option.map_some, hd]
    cases r[j] <;> rfl
  · rw [List.getElem?_eq_none (by simpa using hj), List.getElem?_eq_none (by omega)]; rfl
set_option maxHeartbeats 800000 in
theorem unique_key (A : Option Addr) (n c : Nat) (r : List Bool) (w : World) {B : Nat} (h : Reads w B A n (vb r)) (hB : B ≤ w.heap.size) (hn : n ≤ 64) :
    Calls Try.prog 45 #[.slice A n c] w (RetB w (.string (kS r))) := by
  have HL := Lib.hid h.bool_len
  go_enter Try.func45, Try.ntmps45
  go_wp2_with (at_make; refine mkN el_u8U rfl _ _ rfl w.heap.size n rfl rfl rfl rfl (by omega) (by unfold maxLen; omega) (Nat.le_refl _) ?_; intro w1 ho1 hb1 hs1)
  have ho1' : Own w1 w.heap.size 5 (.slice (some ⟨w.heap.size, 0, none⟩) n n) (vn .u8 (kV n r 0)) := by unfold kV; rw [fillTo_zero]; simpa [vn] using ho1
  clear ho1
  generalize hg : w.heap.size = g at *
  go_loopw [11, 4, 5] (fun i _ _ wr => ∃ k : Nat, k ≤ n ∧ i = .int .i64 k ∧ Own wr g 5 (.slice (some ⟨g, 0, none⟩) n n) (vn .u8 (kV n r k)) ∧ Below g w wr) (fun i _ _ _ => n - (intOf i).toNat)
  case atStart => exact ⟨0, by omega, rfl, ho1', hb1⟩
  case round =>
    obtain ⟨k, hk, rfl, hown, hb⟩ := hrel
    by_cases hlt : k < n
    · obtain ⟨ad, x, e, hbb, hx, hcx⟩ := (h.keep (w' := wr) fun p hp => hb.cell (by omega)).bool_at hlt
      subst e
      have hxD : r.getD k false = x := by rw [List.getD_eq_getElem?_getD, hx]; rfl
      have hf := hown.frozenAt k
      have hat : (kV n r k)[k]? = some 0 := by unfold kV; rw [fillTo_at hlt, if_neg (Nat.lt_irrefl k)]
      have hcell := hown.cell (j := k) (u := .int .u8 ((0 : Nat) : Int)) (by rw [List.getElem?_map, hat]; rfl)
      have hset := hown.set k (.int .u8 ((1 : Nat) : Int))
      rw [vn_set] at hset
      rw [add_row] at hf hcell hset
      have hbs := hb.setCell (p := ⟨g, k, none⟩) (Nat.le_refl _) (.int .u8 ((1 : Nat) : Int))
      cases x
      · have HN : Hid (kV n r (k + 1) = kV n r k) := by
          unfold Hid kV
          rw [← fillTo_next hlt]
          simp only [hxD]
          apply List.ext_getElem?
          intro j
          rw [List.getElem?_set]
          by_cases e : k = j
          · subst e
            rw [if_pos rfl, if_pos (by rw [fillTo_len]; exact hlt), fillTo_at hlt, if_neg (Nat.lt_irrefl k)]; rfl
          · rw [if_neg e]
        clear hset hbs hat hxD hx
        go_wp2
        go_roundw
        case rel => exact ⟨k + 1, by omega, by go_num, by rw [HN.out]; exact hown, hb⟩
        case measure => simp [intOf]; omega
      · have HN : Hid (kV n r (k + 1) = (kV n r k).set k 1) := by
          unfold Hid kV
          rw [← fillTo_next hlt]
          simp only [hxD]; rfl
        rw [← HN.out] at hset
        clear hat hxD hx
        go_wp2
        go_roundw
        case rel => exact ⟨k + 1, by omega, by go_num, hset, hbs⟩
        case measure => simp [intOf]; omega
    · obtain rfl : n = k := by omega
      have hrd := hown.reads
      rw [kV_full HL.out] at hown hrd
      have hconv : (convert 88 9 (.slice (some ⟨g, 0, none⟩) n n)).run Try.prog wr = .ok (.string (kS r)) wr := by
        have hl : (kb r).length = n := by rw [← HL.out]; simp [kb]
        have := run_convert_bytes_back (P := Try.prog) wr 88 9 5 ⟨g, 0, none⟩ n (kb r) Try.underlying88 Try.underlying5 Try.underlying9 (fun j hj => hown.cell (j := j) (by rw [List.getElem?_map, List.getElem?_map, List.getElem?_eq_getElem hj]; rfl))
        rw [hl] at this
        exact this
      clear hrd hown
      go_wp2
      go_ret
      exact ⟨rfl, by rw [hg]; exact hb⟩

/-- a map from keys to counts -/
def MapS (P : Program) (k e : TypeId) (w : World) (b n : Nat) (f : List Bool → Nat) : Prop :=
  ∃ D : DataW Unit, w.ownsMap P k (plainElem P e) b n D ∧ ∀ r : List Bool, D.atKey (.string (kb r)) (.lit (.int .i64 0)) = .lit (.int .i64 ((f r : Nat) : Int))
section
variable {P : Program} {k e t : TypeId} {w w' : World} {b n : Nat} {f : List Bool → Nat}
theorem MapS.keep (h : MapS P k e w b n f) (hh : w'.heap[b]? = w.heap[b]?) : MapS P k e w' b n f := by
  obtain ⟨D, ⟨es, clock, h1, h2⟩, hD⟩ := h
  exact ⟨D, ⟨es, clock, hh.trans h1, h2⟩, hD⟩
theorem MapS.lt (h : MapS P k e w b n f) : b < w.heap.size := by
  obtain ⟨D, h1, _⟩ := h
  exact h1.lt
theorem MapS.noCells (h : MapS P k e w b n f) {cs : Array Value} {E : TypeId} {m : Nat × Nat} : w.heap[b]? ≠ some (.cells cs E m) := by
  obtain ⟨D, ⟨es, clock, h1, h2⟩, hD⟩ := h
  rw [h1]; intro e; injection e with e; cases e
theorem MapS.drewN (h : MapS P k e w b n f) (q : Nat) : MapS P k e (w.drewN q) b n f := h.keep rfl
theorem MapS.made (w : World) (P : Program) (k e : TypeId) : MapS P k e (w.alloc (.map #[] 0)) w.heap.size 0 (fun _ => 0) :=
  ⟨.map [], World.ownsMap_made w P k _, fun _ => rfl⟩
theorem keyS (hk : P.underlying k = some .string) (r : List Bool) (hr : r.length ≤ 64) : keyOf P k (.string (kS r)) = some (.string (kb r)) := by
  have := WideMaps.keyOf_string_mk (P := P) hk (s := kS r) (by rw [kS_len]; unfold maxLen; omega)
  simpa [kS] using this
theorem MapS.look (h : MapS P k e w b n f) (ht : P.underlying t = some (.map k e)) (hk : P.underlying k = some .string) (he : P.underlying e = some (.int .i64)) (hz : (zeroValue e).run P w = .ok (.int .i64 0) w) (r : List Bool) (hr : r.length ≤ 64) :
    (Instr.lookup t (.map (some b)) (.string (kS r)) false).run P w = .ok (.int .i64 ((f r : Nat) : Int)) w := by
  obtain ⟨D, h1, hD⟩ := h
  obtain ⟨v, ps, hr, hv⟩ := h1.lookup (Maps.string_keyed hk) ht hz (plainElem_int he (by rfl)) (keyS hk r hr)
  rw [hD r] at hv
  obtain ⟨c, rfl, hc, _⟩ := plainElem_int_inv he hv
  simp only [Prod.mk.injEq, DataW.lit.injEq, Lit.int.injEq, true_and] at hc
  rw [hr, ← hc.1]
theorem MapS.put (h : MapS P k e w b n f) (ht : P.underlying t = some (.map k e)) (hk : P.underlying k = some .string) (he : P.underlying e = some (.int .i64)) (hn : n < maxLen) (r : List Bool) (hr : r.length ≤ 64) (x : Nat) (hx : x ≤ 1000000) :
    ∃ w', (Instr.mapUpdate t (.map (some b)) (.string (kS r)) (.int .i64 (x : Int))).run P w = .ok () w' ∧ MapS P k e w' b (n + 1) (fun y => if y = r then x else f y) ∧ w.grownBy w' (some b) := by
  obtain ⟨D, h1, hD⟩ := h
  have hwf : (Lit.int .i64 (x : Int)).wf = true := by
    have h1 : IntKind.i64.min = -9223372036854775808 := rfl
    have h2 : IntKind.i64.max = 9223372036854775807 := rfl
    simp [Lit.wf]; omega
  obtain ⟨w', hr, h2, hg⟩ := h1.update (Maps.string_keyed hk) ht hn (keyS hk r hr) (plainElem_int he hwf)
  refine ⟨w', hr, ⟨_, h2, fun y => ?_⟩, hg⟩
  dsimp only
  by_cases hy : y = r
  · subst hy
    rw [if_pos rfl, Maps.atKey_put_same h1.isMap (show WideAt.IsKeyLit (.string (kb y)) from trivial)]
  · have hne : (Lit.string (kb y)) ≠ .string (kb r) := fun e => hy (kb_inj (by injection e))
    rw [if_neg hy, Maps.atKey_put_other hne]
    exact hD y
end

/-- of the rows that were there only those of type T may have changed -/
structure Kt (T : TypeId) (w w' : World) : Prop where
  os : w'.os = w.os
  tape : w'.tape = w.tape
  output : w'.output = w.output
  size : w.heap.size ≤ w'.heap.size
  block : ∀ (b : Nat) (cs : Array Value) (E : TypeId) (m : Nat × Nat), w.heap[b]? = some (Obj.cells cs E m) → E ≠ T → w'.heap[b]? = w.heap[b]?
section
variable {T : TypeId} {w w' w'' : World}
theorem Kt.refl (w : World) : Kt T w w := ⟨rfl, rfl, rfl, Nat.le_refl _, fun _ _ _ _ _ _ => rfl⟩
theorem Kt.trans (h : Kt T w w') (k : Kt T w' w'') : Kt T w w'' :=
  ⟨k.os.trans h.os, k.tape.trans h.tape, k.output.trans h.output, Nat.le_trans h.size k.size, fun b cs E m hb hE => by
    have h1 := h.block b cs E m hb hE
    rw [← h1]; exact k.block b cs E m (h1.trans hb) hE⟩
theorem Kt.drewN (h : Kt T w w') (n : Nat) : Kt T w (w'.drewN n) := ⟨h.os, h.tape, h.output, h.size, h.block⟩
theorem Kt.drew (h : Kt T w w') : Kt T w w'.drew := ⟨h.os, h.tape, h.output, h.size, h.block⟩
theorem Kt.below (h : Below w.heap.size w w') : Kt T w w' := ⟨h.os, h.tape, h.output, h.size, fun b cs E m hb _ => h.block b (Array.getElem?_eq_some_iff.1 hb).1⟩
theorem Kt.alloc (h : Kt T w w') (o : Obj) : Kt T w (w'.alloc o) := h.trans (.below ((Below.refl _ w').alloc (Nat.le_refl _) o))
theorem Kt.grown {row : Option Nat} (h : w.grownBy w' row) (hr : ∀ g, row = some g → ∀ (cs : Array Value) (E : TypeId) (m : Nat × Nat), w.heap[g]? = some (Obj.cells cs E m) → E = T) : Kt T w w' :=
  ⟨h.os, h.tape, h.output, h.size, fun b cs E m hb hE => h.block b (Array.getElem?_eq_some_iff.1 hb).1 (fun e => hE (hr b e.symm cs E m hb))⟩
theorem Own.kt {base : Nat} {E : TypeId} {v : Value} {xs : List Value} (h : Own w base E v xs) (hE : E ≠ T) (hk : Kt T w w') : Own w' base E v xs :=
  h.heapAt fun g hg => by obtain ⟨cur, hc⟩ := h.ty hg; exact hk.block g cur E (0, 0) hc hE
end

/-- a state in memory: its three slices; the rest lies below base, the lists are the call's own -/
def USV (I : TypeId) (w : World) (base : Nat) (s : US) (vs : List Value) : Prop :=
  ∃ Ar nr cr va vb', vs = [.slice Ar nr cr, va, vb'] ∧ Reads w base Ar nr (vb s.rest) ∧ nr ≤ cr ∧ Own w base I va (vn .i64 s.a) ∧ Own w base I vb' (vn .i64 s.b)
/-- the queue -/
def QR (T I : TypeId) (w : World) (base : Nat) (v : Value) (q : List US) : Prop :=
  ∃ xss, OwnQ w base T 3 v xss ∧ xss.length = q.length ∧ ∀ (i : Nat) (s : US), q[i]? = some s → ∃ vs, xss[i]? = some vs ∧ USV I w base s vs
section
variable {T I : TypeId} {w w' : World} {base : Nat} {s : US} {vs : List Value} {v : Value} {q : List US}
theorem USV.kt (h : USV I w base s vs) (hI : I ≠ T) (hb : Below base w w') (hk : Kt T w w') : USV I w' base s vs := by
  obtain ⟨Ar, nr, cr, va, vb', e, h1, h2, h3, h4⟩ := h
  exact ⟨Ar, nr, cr, va, vb', e, h1.below hb, h2, h3.kt hI hk, h4.kt hI hk⟩
theorem QR.nil (T I : TypeId) (w : World) (base : Nat) : QR T I w base (.slice none 0 0) [] := ⟨[], OwnQ.nil _ _ _ _, rfl, fun i s h => by simp at h⟩
theorem QR.lt (h : QR T I w base v q) : ∀ g, v.ownBlock = some g → base ≤ g ∧ g < w.heap.size := by
  obtain ⟨xss, h1, _⟩ := h
  exact h1.lt
theorem QR.ty (h : QR T I w base v q) {g : Nat} (hg : v.ownBlock = some g) : ∃ cur, w.heap[g]? = some (.cells cur T (0, 0)) := by
  obtain ⟨xss, h1, _⟩ := h
  exact h1.ty hg
/-- what leaves the queue's row as it is -/
theorem QR.kt (h : QR T I w base v q) (hI : I ≠ T) (hb : Below base w w') (hk : Kt T w w') (hh : ∀ g, v.ownBlock = some g → w'.heap[g]? = w.heap[g]?) : QR T I w' base v q := by
  obtain ⟨xss, h1, h2, h3⟩ := h
  refine ⟨xss, h1.heapAt hh, h2, fun i s hs => ?_⟩
  obtain ⟨vs, e, hv⟩ := h3 i s hs
  exact ⟨vs, e, hv.kt hI hb hk⟩
theorem QR.below (h : QR T I w base v q) (hI : I ≠ T) (hbase : base ≤ w.heap.size) (hb : Below w.heap.size w w') : QR T I w' base v q :=
  h.kt hI (hb.mono hbase) (.below hb) fun g hg => hb.block g (h.lt g hg).2
theorem QR.drewN (h : QR T I w base v q) (n : Nat) : QR T I (w.drewN n) base v q := by
  obtain ⟨xss, h1, h2, h3⟩ := h
  refine ⟨xss, h1.drewN n, h2, fun i s hs => ?_⟩
  obtain ⟨vs, e, Ar, nr, cr, va, vb', e2, h4, h5, h6, h7⟩ := h3 i s hs
  exact ⟨vs, e, Ar, nr, cr, va, vb', e2, h4.drewN n, h5, h6.drewN n, h7.drewN n⟩
/-- a state put at the end -/
theorem QR.push {xss : List (List Value)} {v' : Value} (h2 : xss.length = q.length) (h3 : ∀ (i : Nat) (s : US), q[i]? = some s → ∃ vs, xss[i]? = some vs ∧ USV I w base s vs) (hI : I ≠ T) (hb : Below base w w') (hk : Kt T w w')
    (hs : USV I w base s vs) (hnew : OwnQ w' base T 3 v' (xss ++ [vs])) : QR T I w' base v' (q ++ [s]) := by
  refine ⟨xss ++ [vs], hnew, by simp [h2], fun i t ht => ?_⟩
  rcases Nat.lt_or_ge i q.length with hi | hi
  · rw [List.getElem?_append_left hi] at ht
    obtain ⟨vs', e, hv⟩ := h3 i t ht
    exact ⟨vs', by rw [List.getElem?_append_left (by omega)]; exact e, hv.kt hI hb hk⟩
  · rw [List.getElem?_append_right hi] at ht
    have hi0 : i - q.length = 0 := by
      have := (List.getElem?_eq_some_iff.1 ht).1
      simp only [List.length_cons, List.length_nil] at this; omega
    rw [hi0] at ht
    injection ht with ht
    subst ht
    exact ⟨vs, by rw [List.getElem?_append_right (by omega), show i - xss.length = 0 by omega]; rfl, hs.kt hI hb hk⟩
end
theorem ne_TI : (3 : TypeId) ≠ 77 := by decide
end Go.Proofs.Ytpbffbhebdcpbaa

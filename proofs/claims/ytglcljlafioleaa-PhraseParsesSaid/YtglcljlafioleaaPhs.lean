/-
  quipuref.Phrases.
-/
import Derived.Test.YtglcljlafioleaaPhr
import Derived.Test.YtglcljlafioleaaCut
import Derived.Test.YtglcljlafioleaaApart
import Derived.StillTailTactics
set_option linter.unusedVariables false
namespace Go.Proofs.Ytglcljlafioleaa
open Go.RowKit

structure RfSt (text : List Nat) (s : Nat) (K : List (List Nat)) (out : List (Nat × Nat)) : Prop where
  len : K.length = out.length + 1
  olen : out.length ≤ s
  nilIn : [] ∈ K
  short : ∀ y ∈ K, y.length ≤ 64
  hs : s ≤ text.length
  go : ∀ R, PhR K (text.drop s) R → PhR [[]] text (out ++ R)
theorem RfSt.start (text : List Nat) : RfSt text 0 [[]] [] := ⟨rfl, Nat.le_refl _, by simp, by simp, by omega, fun R hR => by simpa using hR⟩
theorem RfSt.next {text : List Nat} {s : Nat} {K : List (List Nat)} {out : List (Nat × Nat)} (h : RfSt text s K out) {k p c : Nat} (h64 : text.length ≤ 64) (hk : IsSz K (text.drop s) k) (hp : PlaceIs K ((text.drop s).take (k - 1)) p) (hc : (text.drop s)[k - 1]? = some c) : RfSt text (s + k) (K ++ [(text.drop s).take k]) (out ++ [(p, c)]) := by
  have h1 := hk.1
  have h2 := hk.2.1
  have h3 := h.hs
  have h4 := h.olen
  rw [List.length_drop] at h2
  refine ⟨by simp [h.len], by simp; omega, List.mem_append_left _ h.nilIn, fun y hy => ?_, by omega, fun R hR => ?_⟩
  · rcases List.mem_append.1 hy with h5 | h5
    · exact h.short y h5
    · rw [List.mem_singleton.1 h5, List.length_take, List.length_drop]; omega
  · rw [List.append_assoc]
    refine h.go _ (PhR.cons K (text.drop s) k p c R hk hp hc ?_)
    rw [List.drop_drop]
    exact hR
theorem RfSt.done {text : List Nat} {s : Nat} {K : List (List Nat)} {out : List (Nat × Nat)} (h : RfSt text s K out) (hs : s = text.length) : PhR [[]] text out := by
  have := h.go [] (by rw [hs, List.drop_length]; exact PhR.nil _)
  rwa [List.append_nil] at this
theorem RfSt.place {text : List Nat} {s : Nat} {K : List (List Nat)} {out : List (Nat × Nat)} (h : RfSt text s K out) {k : Nat} (h1 : 1 ≤ k) (hm : ∀ j, 1 ≤ j → j < k → (text.drop s).take j ∈ K) : ∃ p, PlaceIs K ((text.drop s).take (k - 1)) p := by
  apply place_of_mem
  rcases Nat.lt_or_ge 1 k with h2 | h2
  · exact hm _ (by omega) (by omega)
  · obtain rfl : k = 1 := by omega
    simpa using h.nilIn
def sliceN : Value → Nat
  | .slice _ n _ => n
  | _ => 0
theorem el_rowsP : Elem Try.prog 57 22 (.slice none 0 0) 24 := Elem.mk' Try.underlying57 (by kernel_rfl) rfl
theorem OwnK.heapEq {w w' : World} {base k : Nat} {E : TypeId} {v : Value} {xss : List (List Value)} (h : OwnK w base E k v xss) (e : w'.heap = w.heap) : OwnK w' base E k v xss := by
  refine ⟨h.1, h.2.1, ?_⟩
  rcases h.2.2 with h2 | ⟨g, cap, cur, h1, h2, h3, h4⟩
  · exact .inl h2
  · exact .inr ⟨g, cap, cur, h1, h2, by rw [e]; exact h3, h4⟩
theorem rf_start (w : World) : OwnR (w.alloc (.cells #[.slice none 0 0] 22)) w.heap.size 22 (.slice (some ⟨w.heap.size, 0, none⟩) 1 1) (([[]] : List (List Nat)).map (vn .u8)) := by
  refine ⟨_, Own.built w #[.slice none 0 0] 1 rfl (by unfold maxLen; omega) (Nat.le_refl _), rfl, fun k xs hk => ?_⟩
  rcases k with _ | k
  · simp [vn] at hk
    subst hk
    exact ⟨none, 0, 0, rfl, Reads.none_, by simp, fun ad e => by cases e⟩
  · simp at hk
theorem OwnG.keptP {w w' : World} {base : Nat} {E : TypeId} {v : Value} {xss : List (List Value)} {g g' : Option Nat} (h : OwnG w base E v xss g) (hg : w.grownBy w' g) (hat : g' = g ∨ g' = some (w.heap.size + 1)) (hlt : ∀ b, g' = some b → b < w'.heap.size) : OwnG w' base E v xss g' := by
  rcases hat with h1 | h1
  · exact h.kept hg (.inl h1) hlt
  · obtain ⟨vs, ho, hr, ha⟩ := h.kept hg (.inl rfl) (fun b e => by
      obtain ⟨vs, ho, hr, ha⟩ := h
      exact Nat.lt_of_lt_of_le (ha b e).2.1 hg.size)
    obtain ⟨vs0, ho0, hr0, ha0⟩ := h
    refine ⟨vs0, ho0.kept hg ?_, hr0.keptNe hg ha0, fun b e => ⟨?_, hlt b e, fun k A n c hk => ?_⟩⟩
    · cases hv : v.ownBlock with
      | none => exact .inl rfl
      | some q => exact .inr fun e => (ha0 q e.symm).1 hv
    · intro e2
      have h2 := (Own.lt ho0 b e2).2
      rw [h1] at e
      injection e with e
      omega
    · intro e2
      rw [h1] at e
      injection e with e
      have hk2 : k < xss.length := by rw [← hr0.1]; exact (List.getElem?_eq_some_iff.1 hk).1
      obtain ⟨A', n', c', h1', _, _, h4⟩ := hr0.2 k _ (List.getElem?_eq_getElem hk2)
      rw [hk] at h1'
      injection h1' with h1'
      injection h1' with h5 h6 h7
      have := (h4 A h5.symm).2
      omega
theorem grown_like {w u w' : World} {row : Option Nat} (h : u.grownBy w' row) (e1 : w.os = u.os) (e2 : w.tape = u.tape) (e3 : w.output = u.output) (e4 : w.heap = u.heap) : w.grownBy w' row := ⟨h.os.trans e1.symm, h.tape.trans e2.symm, h.output.trans e3.symm, by rw [e4]; exact h.size, fun k hk hne => by rw [e4] at hk ⊢; exact h.block k hk hne⟩
theorem rf_rest {w : World} {B nt k s : Nat} {ad : Addr} {l : List Nat} (h : Reads w B (some ad) nt (vn .u8 (l.drop s))) (hk : k ≤ nt) : Reads w B (some (ad.add k)) (nt - k) (vn .u8 (l.drop (s + k))) := by
  have h1 := h.cutFrom hk
  unfold vn at h1 ⊢
  rw [← List.map_drop, List.drop_drop] at h1
  exact h1
theorem rf_none {w : World} {B nt s : Nat} {ad : Addr} {l : List Nat} (h : Reads w B (some ad) nt (vn .u8 (l.drop s))) : Reads w B (some ad) 0 (vn .u8 (l.drop (s + nt))) := by
  have h1 := (rf_rest h (Nat.le_refl _)).len
  refine ⟨by rw [h1]; omega, fun h => absurd h (by omega)⟩
theorem rf_head {w : World} {B nt k : Nat} {ad : Addr} {t : List Nat} (h : Reads w B (some ad) nt (vn .u8 t)) (hk : k ≤ nt) : Reads w B (some ad) k (vn .u8 (t.take k)) := by
  have h1 := h.cutTo hk
  unfold vn at h1 ⊢
  rw [List.map_take]
  exact h1
theorem ne_own {a b : Option Nat} (h : ∀ q, a = some q → b ≠ some q) : a = none ∨ a ≠ b := by
  cases a with
  | none => exact .inl rfl
  | some q => exact .inr fun e => h q rfl e.symm
set_option maxRecDepth 100000 in
set_option maxHeartbeats 4000000 in
theorem ref_Phrases (A : Option Addr) (n c : Nat) (l : List Nat) (w : World) (h : Reads w w.heap.size A n (vn .u8 l)) (hw : ∀ x ∈ l, x < 256) (hn : n ≤ 64) (hcap : n ≤ c) :
    Calls Try.prog 11 #[.slice A n c] w (fun e w' => ∃ A' n' c' out, e = .returned (.slice A' n' c') ∧ OwnK w' w.heap.size 69 2 (.slice A' n' c') (out.map phC) ∧ PhR [[]] l out ∧ n' ≤ 64 ∧ Below w.heap.size w w') := by
  have H := Lib.hid h.nat_len
  have HW := Lib.hid hw
  have HR := Lib.hid h
  have HK0 := Lib.hid (rf_start w)
  have HB0 := Lib.hid ((Below.refl w.heap.size w).alloc (Nat.le_refl _) (.cells #[.slice none 0 0] 22))
  clear hw h
  go_enter Try.func11, Try.ntmps11
  go_wp2
  go_loopw [0, 3, 4] (fun tv kv ov wr => ∃ (s : Nat) (K : List (List Nat)) (out : List (Nat × Nat)) (At : Option Addr) (nt ct : Nat), tv = .slice At nt ct ∧ nt ≤ ct ∧ Hid (nt = n - s) ∧ nt ≤ 64 ∧ Hid (RfSt l s K out) ∧ Reads wr w.heap.size At nt (vn .u8 (l.drop s)) ∧ OwnG wr w.heap.size 22 kv (K.map (vn .u8)) ov.ownBlock ∧ OwnK wr w.heap.size 69 2 ov (out.map phC) ∧ Below w.heap.size w wr) (fun tv _ _ _ => sliceN tv)
  case atStart => exact ⟨0, [[]], [], A, n, c, rfl, hcap, by unfold Hid; omega, hn, RfSt.start l, by simpa using HR.out.alloc (Nat.le_refl _) _, HK0.out.away, OwnK.nil _ _ _ _, HB0.out⟩
  case round =>
    obtain ⟨s, K, out, At, nt, ct, rfl, hct, hnt, hnt64, hst, hrd, hkn, hown, hbel⟩ := hrel
    obtain ⟨wo, rfl⟩ : ∃ x, x = wr := ⟨_, rfl⟩
    obtain ⟨ov, rfl⟩ : ∃ x, x = u4 := ⟨_, rfl⟩
    obtain ⟨Ak, ck, e⟩ := hkn.ownR.form
    rw [List.length_map] at e
    subst e
    have HRD := Lib.hid hrd
    have HKN := Lib.hid hkn
    have HOWN := Lib.hid hown
    have HBEL := Lib.hid hbel
    have hkl : K.length ≤ 65 := by have := hst.out.len; have := hst.out.olen; have := hst.out.hs; have := H.out; omega
    obtain ⟨kn, hkn2⟩ : ∃ kn, K.length = kn := ⟨_, rfl⟩
    rw [hkn2] at hkl HKN ⊢
    have HKL := Lib.hid hkn2
    clear hrd hkn hown hbel hkn2
    by_cases h0 : 0 < nt
    · have i0 : (0 : Int) < (nt : Int) := by omega
      obtain ⟨ad, rfl, hadb, _⟩ := HRD.out.cells h0
      go_wp2
      go_loopw [5] (fun zv wr => ∃ k q : Nat, 1 ≤ k ∧ k ≤ nt ∧ zv = .int .i64 (k : Int) ∧ Hid (∀ j, 1 ≤ j → j < k → (l.drop s).take j ∈ K) ∧ wr = wo.drewN q) (fun zv _ => nt - (intOf zv).toNat)
      case atStart => exact ⟨1, 0, Nat.le_refl _, by omega, rfl, fun j a b => by omega, rfl⟩
      case round =>
        obtain ⟨k, q, hk1, hkn, rfl, hmem, rfl⟩ := hrel
        have hcp := fun (r : Int) (W : World) (k' : Nat) (hk' : k' ≤ nt) (hW : W.heap = wo.heap) (hr : Hid (PlaceI K ((l.drop s).take k') r)) => ref_place Ak (some ad) kn k' ck ct K ((l.drop s).take k') r W (HKN.out.ownR.rows.keep (fun p _ => by simp [World.cell?, hW])) ((by have h1 := HRD.out.cutTo hk'; unfold vn at h1 ⊢; rw [List.map_take]; exact h1.keep (fun p _ => by simp [World.cell?, hW]))) (by omega) (hst.out.short) hr
        have k0 : (0 : Int) ≤ (k : Int) := by omega
        have k1 : (k : Int) ≤ (ct : Int) := by omega
        by_cases hcont : k < nt ∧ (l.drop s).take k ∈ K
        · obtain ⟨hlt, hin⟩ := hcont
          obtain ⟨p, hp⟩ := place_of_mem hin
          have cp := hcp (p : Int) (wo.drewN q) k hkn rfl (.inr ⟨p, rfl, hp⟩)
          have HM2 : Hid (∀ j, 1 ≤ j → j < k + 1 → (l.drop s).take j ∈ K) := fun j a b => by
            by_cases e : j = k
            · rw [e]; exact hin
            · exact hmem.out j a (by omega)
          have k2 : (k : Int) < (nt : Int) := by omega
          have k3 : (0 : Int) ≤ (p : Int) := by omega
          clear hin hp hcp
          go_wp2_with (go_at_call 29; refine cp.mono ?_; clear cp; rintro e w2 ⟨rfl, m2, rfl⟩)
          go_roundw
          case rel => exact ⟨k + 1, q + m2, by omega, by omega, by go_num, HM2, by first | rfl | rw [World.drewN_drewN]⟩
          case measure => simp [intOf] <;> omega
        · obtain ⟨k1', hk1'⟩ : ∃ k1, k = k1 + 1 := ⟨k - 1, by omega⟩
          have hdl : (l.drop s).length = nt := HRD.out.nat_len
          have hsz : IsSz K (l.drop s) k := ⟨hk1, by omega, hmem.out, fun a b => hcont ⟨by omega, b⟩⟩
          obtain ⟨p, hp⟩ := hst.out.place hk1 hmem.out
          obtain ⟨ad2, x, ea, _, hx, hcx⟩ := HRD.out.nat_at (k := k1') (by omega)
          injection ea with ea
          subst ea
          have hx256 := HW.out x (List.mem_of_mem_drop (mem_at hx))
          have hnext := hst.out.next (by rw [H.out]; exact hn) hsz hp (by rw [show k - 1 = k1' by omega]; exact hx)
          have hp1 : PlaceIs K ((l.drop s).take k1') p := by rw [show k1' = k - 1 by omega]; exact hp
          have cp1 := fun (W : World) (hW : W.heap = wo.heap) => hcp (p : Int) W k1' (by omega) hW (.inr ⟨p, rfl, hp1⟩)
          have hnt2 : nt - k = n - (s + k) := by have := hnt.out; omega
          have HNT2 := Lib.hid hnt2
          have HNX := Lib.hid hnext
          have HX := Lib.hid hx
          have hol : out.length ≤ 64 := by have := hst.out.olen; have := hst.out.hs; have := H.out; omega
          have em : IntKind.i64.wrap ((k : Int) - 1) = (k1' : Int) := by rw [IntKind.wrap_i64]; omega
          have em2 : (k : Int) - 1 = (k1' : Int) := by omega
          have em3 : IntKind.i64.wrap (k1' : Int) = (k1' : Int) := by rw [IntKind.wrap_i64]; omega
          have j0 : (0 : Int) ≤ (k1' : Int) := by omega
          have j1 : (k1' : Int) < (nt : Int) := by omega
          have j2 : (k1' : Int) ≤ (ct : Int) := by omega
          have j3 : (k : Int) ≤ (nt : Int) := by omega
          by_cases hlt : k < nt
          · have hin : (l.drop s).take k ∉ K := hsz.2.2.2 (by omega)
            have cp := hcp (-1) (wo.drewN q) k hkn rfl (.inl ⟨rfl, hin⟩)
            have k2 : (k : Int) < (nt : Int) := by omega
            clear hin hp hp1 hcp hsz hx hnext hmem hcont hst hnt hdl hk1' hnt2
            go_wp2_with (go_at_call 29; refine cp.mono ?_; clear cp; rintro e w2 ⟨rfl, m2, rfl⟩)
            go_region_law (first
              | (refine step_app1K el_phr rfl (.tmp 24) (.tmp 37) (by rfl) (by rfl) (HOWN.out.drewN _) #[.int .i64 (p : Int), .int .u8 (x : Int)] _ (by first | rfl | (go_simp; done) | (go_simp; rfl)) rfl (by simp [Value.oneCell']) (by simp; unfold maxLen; omega) (by simp; omega) (show w.heap.size ≤ wo.heap.size from HBEL.out.size) ?_; intro v3 w3 ho3 hg3 hat3)
              | (go_simp; go_at_call 29; refine (cp1 (wo.drewN _) rfl).mono ?_; rintro e w2 ⟨rfl, m2, rfl⟩))
            all_goals
              have hg3' : wo.grownBy w3 ov.ownBlock := grown_like hg3 rfl rfl rfl rfl
              rw [ph_snoc] at ho3
              have hat3' : v3.ownBlock = ov.ownBlock ∨ v3.ownBlock = some (wo.heap.size + 1) := hat3
              have hkn3 := HKN.out.keptP hg3' hat3' (fun b e => (ho3.lt b e).2)
              have hb3 : Below w.heap.size wo w3 := grown_below hg3' HBEL.out.size (fun b e => (HOWN.out.lt b e).1)
              have hbel3 := HBEL.out.trans hb3
              have hrd3 := HRD.out.below hb3
              have htk := (rf_head hrd3 hkn).more hbel3.size
              obtain ⟨vs, hv, hrw, haw⟩ := hkn3
              have HVL : Hid (vs.length = kn) := by unfold Hid; rw [hrw.1, List.length_map, HKL.out]
              have hout := ho3
              clear hg3 hat3 hg3' hat3' hb3
              by_cases hkc : k = ct
              · exfalso; omega
              · have hkc2 : ¬ ct = k := fun e => hkc e.symm
                go_wp2_with (at_builtin; refine app1 el_rowsP rfl _ _ rfl rfl hv _ _ rfl rfl (by rw [HVL.out]; unfold maxLen; omega) (by rw [HVL.out]; omega) hbel3.size ?_; intro v5 w5 ho5 hb5 hg5 hat5; have hpush := away_push hrw haw htk (by unfold maxLen; omega) (fun a ha e => by have h1 := (Own.lt hv _ e).1; injection ha with ha; subst ha; omega) (fun a ha => by injection ha with ha; subst ha; have := hbel3.size; omega) (fun a ha e => by have h1 := (hout.lt _ e).1; injection ha with ha; subst ha; omega) ho5 hg5 hat5; have hout5 := hout.kept hg5 (ne_own (fun q e => (haw q e).1)))
                rw [← List.map_singleton (f := vn IntKind.u8), ← List.map_append] at hpush
                go_roundw
                case rel => exact ⟨s + k, K ++ [(l.drop s).take k], out ++ [(p, x)], some (ad.add k), nt - k, ct - k, rfl, by omega, HNT2, by omega, HNX, rf_rest (hrd3.below hb5) hkn, hpush, hout5, hbel3.trans hb5⟩
                case measure => simp [sliceN] <;> omega
          · have k2 : ¬ (k : Int) < (nt : Int) := by omega
            clear hp hp1 hcp hsz hx hnext hmem hcont hst hnt hdl hk1' hnt2
            go_wp2
            go_region_law (first
              | (refine step_app1K el_phr rfl (.tmp 24) (.tmp 37) (by rfl) (by rfl) (HOWN.out.drewN _) #[.int .i64 (p : Int), .int .u8 (x : Int)] _ (by first | rfl | (go_simp; done) | (go_simp; rfl)) rfl (by simp [Value.oneCell']) (by simp; unfold maxLen; omega) (by simp; omega) (show w.heap.size ≤ wo.heap.size from HBEL.out.size) ?_; intro v3 w3 ho3 hg3 hat3)
              | (go_simp; go_at_call 29; refine (cp1 (wo.drewN _) rfl).mono ?_; rintro e w2 ⟨rfl, m2, rfl⟩))
            all_goals
              have hg3' : wo.grownBy w3 ov.ownBlock := grown_like hg3 rfl rfl rfl rfl
              rw [ph_snoc] at ho3
              have hat3' : v3.ownBlock = ov.ownBlock ∨ v3.ownBlock = some (wo.heap.size + 1) := hat3
              have hkn3 := HKN.out.keptP hg3' hat3' (fun b e => (ho3.lt b e).2)
              have hb3 : Below w.heap.size wo w3 := grown_below hg3' HBEL.out.size (fun b e => (HOWN.out.lt b e).1)
              have hbel3 := HBEL.out.trans hb3
              have hrd3 := HRD.out.below hb3
              have htk := (rf_head hrd3 hkn).more hbel3.size
              obtain ⟨vs, hv, hrw, haw⟩ := hkn3
              have HVL : Hid (vs.length = kn) := by unfold Hid; rw [hrw.1, List.length_map, HKL.out]
              have hout := ho3
              clear hg3 hat3 hg3' hat3' hb3
              by_cases hkc : k = ct
              · subst hkc
                obtain rfl : k = nt := by omega
                go_wp2_with (at_builtin; refine app1 el_rowsP rfl _ _ rfl rfl hv _ _ rfl rfl (by rw [HVL.out]; unfold maxLen; omega) (by rw [HVL.out]; omega) hbel3.size ?_; intro v5 w5 ho5 hb5 hg5 hat5; have hpush := away_push hrw haw htk (by unfold maxLen; omega) (fun a ha e => by have h1 := (Own.lt hv _ e).1; injection ha with ha; subst ha; omega) (fun a ha => by injection ha with ha; subst ha; have := hbel3.size; omega) (fun a ha e => by have h1 := (hout.lt _ e).1; injection ha with ha; subst ha; omega) ho5 hg5 hat5; have hout5 := hout.kept hg5 (ne_own (fun q e => (haw q e).1)))
                rw [← List.map_singleton (f := vn IntKind.u8), ← List.map_append] at hpush
                go_roundw
                case rel => exact ⟨s + k, K ++ [(l.drop s).take k], out ++ [(p, x)], some ad, 0, 0, by simp, by omega, by have := HNT2.out; unfold Hid; omega, by omega, HNX, rf_none (hrd3.below hb5), hpush, hout5, hbel3.trans hb5⟩
                case measure => simp [sliceN] <;> omega
              · have hkc2 : ¬ ct = k := fun e => hkc e.symm
                go_wp2_with (at_builtin; refine app1 el_rowsP rfl _ _ rfl rfl hv _ _ rfl rfl (by rw [HVL.out]; unfold maxLen; omega) (by rw [HVL.out]; omega) hbel3.size ?_; intro v5 w5 ho5 hb5 hg5 hat5; have hpush := away_push hrw haw htk (by unfold maxLen; omega) (fun a ha e => by have h1 := (Own.lt hv _ e).1; injection ha with ha; subst ha; omega) (fun a ha => by injection ha with ha; subst ha; have := hbel3.size; omega) (fun a ha e => by have h1 := (hout.lt _ e).1; injection ha with ha; subst ha; omega) ho5 hg5 hat5; have hout5 := hout.kept hg5 (ne_own (fun q e => (haw q e).1)))
                rw [← List.map_singleton (f := vn IntKind.u8), ← List.map_append] at hpush
                go_roundw
                case rel => exact ⟨s + k, K ++ [(l.drop s).take k], out ++ [(p, x)], some (ad.add k), nt - k, ct - k, rfl, by omega, HNT2, by omega, HNX, rf_rest (hrd3.below hb5) hkn, hpush, hout5, hbel3.trans hb5⟩
                case measure => simp [sliceN] <;> omega
    · obtain rfl : nt = 0 := by omega
      have hdone := hst.out.done (by have := hnt.out; have := hst.out.hs; have := H.out; omega)
      obtain ⟨A2, c2, e2⟩ := HOWN.out.form
      rw [List.length_map] at e2
      subst e2
      have hol2 : out.length ≤ 64 := by have := hst.out.olen; have := hst.out.hs; have := H.out; omega
      have HD := Lib.hid hdone
      clear hdone hst hnt
      obtain ⟨m, hm⟩ : ∃ m, out.length = m := ⟨_, rfl⟩
      rw [hm] at hol2 HOWN ⊢
      clear hm
      go_wp2
      go_ret
      exact ⟨A2, m, c2, out, rfl, HOWN.out, HD.out, hol2, HBEL.out⟩
end Go.Proofs.Ytglcljlafioleaa

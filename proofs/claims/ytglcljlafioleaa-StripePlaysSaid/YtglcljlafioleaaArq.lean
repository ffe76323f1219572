/-
  quipuref.Moves.
-/
import Derived.Test.YtglcljlafioleaaArm
import Derived.Test.YtglcljlafioleaaArp
set_option linter.unusedVariables false
namespace Go.Proofs.Ytglcljlafioleaa
open Go.RowKit

structure MvR where
  v : Nat
  e : Nat
  bl : List Nat
  z : Int
def mvR (d : Nat) (bl : List Nat) (z kind block : Int) (v : Nat) : MvR :=
  if kind < 1 ∨ 4 < kind then ⟨0, 6, bl, z⟩
  else if block < 0 ∨ (if kind = 3 ∨ kind = 4 then (d : Int) else 24) ≤ block then ⟨0, 2, bl, z⟩
  else if kind = 2 then ⟨bl.getD block.toNat 0, 0, bl, z⟩
  else if kind = 3 then (if 0 ≤ z then ⟨0, 7, bl, z⟩ else ⟨0, 0, bl, block⟩)
  else if kind = 4 then (if block = z then ⟨0, 0, bl, -1⟩ else ⟨0, 7, bl, z⟩)
  else ⟨0, 0, bl.set block.toNat v, z⟩
structure PlR where
  outs : List (Nat × Nat)
  bl : List Nat
  z : Int
def playR (d : Nat) (l : List (Int × Int × Nat)) : Nat → PlR
  | 0 => ⟨[], List.replicate 24 0, -1⟩
  | k + 1 => match l[k]? with
    | none => playR d l k
    | some m => ⟨(playR d l k).outs ++ [((mvR d (playR d l k).bl (playR d l k).z m.1 m.2.1 m.2.2).e, (mvR d (playR d l k).bl (playR d l k).z m.1 m.2.1 m.2.2).v)], (mvR d (playR d l k).bl (playR d l k).z m.1 m.2.1 m.2.2).bl, (mvR d (playR d l k).bl (playR d l k).z m.1 m.2.1 m.2.2).z⟩
theorem playR_next {d : Nat} {l : List (Int × Int × Nat)} {k : Nat} {m : Int × Int × Nat} (h : l[k]? = some m) : playR d l (k + 1) = ⟨(playR d l k).outs ++ [((mvR d (playR d l k).bl (playR d l k).z m.1 m.2.1 m.2.2).e, (mvR d (playR d l k).bl (playR d l k).z m.1 m.2.1 m.2.2).v)], (mvR d (playR d l k).bl (playR d l k).z m.1 m.2.1 m.2.2).bl, (mvR d (playR d l k).bl (playR d l k).z m.1 m.2.1 m.2.2).z⟩ := by
  rw [playR, h]
theorem playR_len (d : Nat) (l : List (Int × Int × Nat)) : ∀ k, (playR d l k).outs.length ≤ k
  | 0 => by simp [playR]
  | k + 1 => by
    have := playR_len d l k
    cases h : l[k]? with
    | none => rw [playR, h]; exact Nat.le_succ_of_le this
    | some m => rw [playR_next h]; simp; omega
theorem ArrB.below {w w' : World} {base ab g : Nat} {bl : List Nat} {z : Int} (h : ArrB w base ab g bl z) (hB : Below w.heap.size w w') : ArrB w' base ab g bl z :=
  ⟨(hB.block ab ((Array.getElem?_eq_some_iff.1 h.box).1)).trans h.box, h.row.below hB (Nat.le_refl _), h.ne⟩
theorem ArrB.kept {w w' : World} {base ab g : Nat} {bl : List Nat} {z : Int} {row : Option Nat} (h : ArrB w base ab g bl z) (hg : w.grownBy w' row) (h1 : row ≠ some ab) (h2 : row ≠ some g) : ArrB w' base ab g bl z :=
  ⟨(hg.block ab ((Array.getElem?_eq_some_iff.1 h.box).1) (fun e => h1 e.symm)).trans h.box, h.row.kept hg (.inr fun e => h2 e.symm), h.ne⟩
theorem OwnK.heapAt {w w' : World} {base k : Nat} {E : TypeId} {v : Value} {xss : List (List Value)} (h : OwnK w base E k v xss) (hh : ∀ g, v.ownBlock = some g → w'.heap[g]? = w.heap[g]?) : OwnK w' base E k v xss := by
  refine ⟨h.1, h.2.1, ?_⟩
  rcases h.2.2 with h3 | ⟨g, cap, cur, e1, e2, e3, e4⟩
  · exact .inl h3
  · exact .inr ⟨g, cap, cur, e1, e2, by rw [hh g (by rw [e1]; rfl)]; exact e3, e4⟩
theorem ArrB.heapAt {w w' : World} {base ab g : Nat} {bl : List Nat} {z : Int} (h : ArrB w base ab g bl z) (h1 : w'.heap[ab]? = w.heap[ab]?) (h2 : w'.heap[g]? = w.heap[g]?) : ArrB w' base ab g bl z := by
  refine ⟨h1.trans h.box, ⟨h.row.1, ?_⟩, h.ne⟩
  rcases h.row.2 with h3 | ⟨g', cap, cur, e1, e2, e3, e4⟩
  · exact .inl h3
  · injection e1 with e1
    injection e1 with e1
    injection e1 with e1
    subst e1
    exact .inr ⟨g, cap, cur, by simp_all, e2, by rw [h2]; exact e3, e4⟩
theorem mv_after {wo W2 w3 : World} {ab g : Nat} {T : TypeId} (E V : Value) (hW2 : Below wo.heap.size wo W2) (hs2 : W2.heap.size = wo.heap.size + 2) (hD2 : W2.heap[wo.heap.size + 1]? = some (.cells #[.int .i64 0, .int .u8 0] T (0, 0))) (o1 : w3.os = W2.os) (o2 : w3.tape = W2.tape) (o3 : w3.output = W2.output) (o4 : w3.heap.size = W2.heap.size) (o5 : ∀ b, b ≠ ab → b ≠ g → w3.heap[b]? = W2.heap[b]?) (hab : ab < wo.heap.size) (hg : g < wo.heap.size) :
    w3.cell? ⟨wo.heap.size + 1, 1, none⟩ = some (.int .u8 0) ∧ w3.frozen? ⟨wo.heap.size + 1, 1, none⟩ = false ∧ (w3.setCell ⟨wo.heap.size + 1, 1, none⟩ V).cell? ⟨wo.heap.size + 1, 0, none⟩ = some (.int .i64 0) ∧ (w3.setCell ⟨wo.heap.size + 1, 1, none⟩ V).frozen? ⟨wo.heap.size + 1, 0, none⟩ = false ∧
    ((w3.setCell ⟨wo.heap.size + 1, 1, none⟩ V).setCell ⟨wo.heap.size + 1, 0, none⟩ E).cell? ⟨wo.heap.size + 1, 0, none⟩ = some E ∧ ((w3.setCell ⟨wo.heap.size + 1, 1, none⟩ V).setCell ⟨wo.heap.size + 1, 0, none⟩ E).cell? ⟨wo.heap.size + 1, 1, none⟩ = some V ∧ ((w3.setCell ⟨wo.heap.size + 1, 1, none⟩ V).setCell ⟨wo.heap.size + 1, 0, none⟩ E).heap.size = wo.heap.size + 2 ∧
    (∀ b, b < wo.heap.size → ((w3.setCell ⟨wo.heap.size + 1, 1, none⟩ V).setCell ⟨wo.heap.size + 1, 0, none⟩ E).heap[b]? = w3.heap[b]?) ∧ (∀ b, b < wo.heap.size → b ≠ ab → b ≠ g → ((w3.setCell ⟨wo.heap.size + 1, 1, none⟩ V).setCell ⟨wo.heap.size + 1, 0, none⟩ E).heap[b]? = wo.heap[b]?) ∧
    (∀ B, B ≤ wo.heap.size → B ≤ ab → B ≤ g → Below B wo ((w3.setCell ⟨wo.heap.size + 1, 1, none⟩ V).setCell ⟨wo.heap.size + 1, 0, none⟩ E)) := by
  have h3 : w3.heap[wo.heap.size + 1]? = some (.cells #[.int .i64 0, .int .u8 0] T (0, 0)) := (o5 _ (by omega) (by omega)).trans hD2
  have hk : ∀ b, b < wo.heap.size → ((w3.setCell ⟨wo.heap.size + 1, 1, none⟩ V).setCell ⟨wo.heap.size + 1, 0, none⟩ E).heap[b]? = w3.heap[b]? := fun b hb => by
    rw [Below.heap_setCell _ _ _ b (by show b ≠ wo.heap.size + 1; omega), Below.heap_setCell _ _ _ b (by show b ≠ wo.heap.size + 1; omega)]
  have hk2 : ∀ b, b < wo.heap.size → b ≠ ab → b ≠ g → ((w3.setCell ⟨wo.heap.size + 1, 1, none⟩ V).setCell ⟨wo.heap.size + 1, 0, none⟩ E).heap[b]? = wo.heap[b]? := fun b hb h1 h2 => by
    rw [hk b hb, o5 b h1 h2, hW2.block b hb]
  have hv : (w3.setCell ⟨wo.heap.size + 1, 1, none⟩ V).heap[wo.heap.size + 1]? = some (.cells #[.int .i64 0, V] T (0, 0)) := by simp [World.setCell, Array.getElem?_modify, h3]
  have he : ((w3.setCell ⟨wo.heap.size + 1, 1, none⟩ V).setCell ⟨wo.heap.size + 1, 0, none⟩ E).heap[wo.heap.size + 1]? = some (.cells #[E, V] T (0, 0)) := by
    generalize w3.setCell ⟨wo.heap.size + 1, 1, none⟩ V = wv at *
    simp [World.setCell, Array.getElem?_modify, hv]
  refine ⟨by simp [World.cell?, h3], by simp [World.frozen?, h3], by simp only [World.cell?, hv]; rfl, by simp only [World.frozen?, hv]; rfl, by simp only [World.cell?, he]; rfl, by simp only [World.cell?, he]; rfl, by simp [o4, hs2], hk, hk2, fun B h1 h2 h4 => ⟨o1.trans hW2.os, o2.trans hW2.tape, o3.trans hW2.output, by simp [o4, hs2], fun b hb => hk2 b (by omega) (by omega) (by omega)⟩⟩
set_option maxRecDepth 100000 in
set_option maxHeartbeats 4000000 in
theorem ref_Moves (d : Nat) (A : Option Addr) (n c : Nat) (l : List (Int × Int × Nat)) (w : World) (h : ReadsK w w.heap.size 3 A n (l.map mvC)) (hl : ∀ m ∈ l, m.2.2 < 256) (h3 : 3 ≤ d) (h6 : d ≤ 6) (hn : n ≤ 100) :
    Calls Try.prog 26 #[.int .i64 (d : Int), .slice A n c] w (fun e w' => ∃ A1 n1 c1 g, e = .returned (.tuple #[.slice A1 n1 c1, .agg #[.slice (some ⟨g, 0, none⟩) 24 24, .int .i64 (playR d l n).z]]) ∧ OwnK w' w.heap.size 103 2 (.slice A1 n1 c1) ((playR d l n).outs.map dnC) ∧ n1 ≤ 100 ∧ Own w' w.heap.size 5 (.slice (some ⟨g, 0, none⟩) 24 24) (vn .u8 (playR d l n).bl) ∧ Below w.heap.size w w') := by
  have HR := Lib.hid h
  have HL := Lib.hid hl
  have HN : Hid (l.length = n) := by have := h.len; rwa [List.length_map] at this
  clear h hl
  go_enter Try.func26, Try.ntmps26
  go_wp2_with (at_make; refine mkN el_u8S rfl _ _ rfl w.heap.size 24 rfl rfl rfl rfl (by omega) (by unfold maxLen; omega) (by simp) ?_; intro w1 ho1 hb1 hs1)
  --CUT
  obtain ⟨ab, hab⟩ : ∃ ab, w1.heap.size = ab := ⟨_, rfl⟩
  have esz : (w.alloc (.cells #[.slice none 0 0, .int .i64 0] 61)).heap.size = w.heap.size + 1 := by simp
  rw [esz] at ho1 hb1 hs1
  have hA0 : ArrB (w1.alloc (.cells #[.slice (some ⟨w.heap.size + 1, 0, none⟩) 24 24, .int .i64 (-1)] 61)) w.heap.size ab (w.heap.size + 1) (List.replicate 24 0) (-1) := by
    refine ⟨by rw [← hab]; exact heap_alloc_new w1 _, ?_, by omega⟩
    have := ho1.alloc (.cells #[.slice (some ⟨w.heap.size + 1, 0, none⟩) 24 24, .int .i64 (-1)] 61)
    simpa [vn] using this
  have hbA : Below (w.heap.size + 1) (w.alloc (.cells #[.slice none 0 0, .int .i64 0] 61)) (w1.alloc (.cells #[.slice (some ⟨w.heap.size + 1, 0, none⟩) 24 24, .int .i64 (-1)] 61)) := hb1.alloc (by omega) _
  have hr0 : (w1.alloc (.cells #[.slice (some ⟨w.heap.size + 1, 0, none⟩) 24 24, .int .i64 (-1)] 61)).heap[w.heap.size]? = some (.cells #[.slice none 0 0, .int .i64 0] 61 (0, 0)) := (hbA.block _ (by omega)).trans (heap_alloc_new w _)
  have hbW : Below w.heap.size w (w1.alloc (.cells #[.slice (some ⟨w.heap.size + 1, 0, none⟩) 24 24, .int .i64 (-1)] 61)) := ((Below.refl w.heap.size w).alloc (Nat.le_refl _) _).trans (hbA.mono (by omega))
  have hsab : ab < (w1.alloc (.cells #[.slice (some ⟨w.heap.size + 1, 0, none⟩) 24 24, .int .i64 (-1)] 61)).heap.size := by simp; omega
  have hgab : w.heap.size + 1 < ab := by omega
  have HA0 := Lib.hid hA0
  have HR0 := Lib.hid hr0
  have HBW := Lib.hid hbW
  have HSAB := Lib.hid hsab
  clear ho1 hb1 hs1 hA0 hbA hr0 hbW hsab esz
  rw [hab]
  clear hab
  go_loopw [7, 16] (fun ov iv wr => ∃ k : Nat, k ≤ n ∧ iv = .int .i64 (k : Int) ∧ ArrB wr w.heap.size ab (w.heap.size + 1) (playR d l k).bl (playR d l k).z ∧ OwnK wr (ab + 1) 103 2 ov ((playR d l k).outs.map dnC) ∧ Below w.heap.size w wr ∧ ab < wr.heap.size ∧ wr.heap[w.heap.size]? = some (.cells #[.slice none 0 0, .int .i64 0] 61 (0, 0))) (fun _ iv _ => n - (intOf iv).toNat)
  case atStart => exact ⟨0, Nat.zero_le _, rfl, HA0.out, OwnK.nil _ _ _ _, HBW.out, HSAB.out, HR0.out⟩
  case round =>
    obtain ⟨k, hk, rfl, harr, hown, hbel, hsz, hr0⟩ := hrel
    obtain ⟨wo, rfl⟩ : ∃ x, x = wr := ⟨_, rfl⟩
    obtain ⟨ov, rfl⟩ : ∃ x, x = u7 := ⟨_, rfl⟩
    by_cases hlt : k < n
    · obtain ⟨ad, xs, rfl, hadb, hx, _, hc⟩ := (HR.out.below hbel).at_ hlt
      rw [List.getElem?_map] at hx
      obtain ⟨⟨kind, block, v⟩, hm, rfl⟩ := Option.map_eq_some_iff.1 hx
      have hv256 : v < 256 := HL.out _ (List.mem_of_getElem? hm)
      have c0 := hc 0 _ rfl
      have c1 := hc 1 _ rfl
      have c2 := hc 2 _ rfl
      rw [Nat.add_zero] at c0
      rw [add_secondS] at c1
      rw [add_thirdS] at c2
      have hnx := playR_next (d := d) hm
      have hol := playR_len d l k
      have hbl24 : (playR d l k).bl.length = 24 := harr.row.reads.nat_len
      generalize playR d l k = st at *
      have HNX := Lib.hid hnx
      have HARR := Lib.hid harr
      have HOWN := Lib.hid hown
      have HBEL := Lib.hid hbel
      have HR1 := Lib.hid hr0
      have HOV : Hid (∀ q, ov.ownBlock = some q → ab + 1 ≤ q ∧ q < wo.heap.size) := hown.lt
      have i0 : (0 : Int) ≤ (k : Int) := by omega
      have i1 : (k : Int) < (n : Int) := by omega
      clear hx hc hm hnx harr hown hbel hr0
      by_cases hkb : kind < 1 ∨ 4 < kind
      · have HD : Hid (mvR d st.bl st.z kind block v = ⟨0, 6, st.bl, st.z⟩) := by unfold Hid mvR; rw [if_pos hkb]
        have t3 : (kind == 3) = false := by simp; omega
        have t4 : (kind == 4) = false := by simp; omega
        have hBD : Below wo.heap.size wo ((wo.alloc (.cells #[.int .i64 kind, .int .i64 block, .int .u8 (v : Int)] 99)).alloc (.cells #[.int .i64 6, .int .u8 0] 103)) := ((Below.refl wo.heap.size wo).alloc (Nat.le_refl _) _).alloc (by simp) _
        have harrD := HARR.out.below hBD
        have hownD := HOWN.out.below hBD (Nat.le_refl _)
        have hbelD := HBEL.out.trans (hBD.mono HBEL.out.size)
        have hszD : ((wo.alloc (.cells #[.int .i64 kind, .int .i64 block, .int .u8 (v : Int)] 99)).alloc (.cells #[.int .i64 6, .int .u8 0] 103)).heap.size = wo.heap.size + 2 := by simp
        have hr0D := (hBD.block w.heap.size (by omega)).trans HR1.out
        have HXD := Lib.hid (And.intro harrD (And.intro hbelD hr0D))
        have HSD := Lib.hid hszD
        have HOD := Lib.hid hownD
        clear hBD harrD hbelD hr0D hszD hownD
        rcases hkb with hkb | hkb
        all_goals
          (first | (have k1 : ¬ kind < 1 := by omega) | skip)
          go_wp2_with (at_builtin; refine app1K el_done rfl _ _ rfl rfl HOD.out #[.int .i64 6, .int .u8 0] _ (by first | rfl | (go_simp; done) | (go_simp; rfl)) rfl (by simp [Value.oneCell']) (by simp; unfold maxLen; omega) (by simp; omega) (by have := HSD.out; omega) ?_; intro v5 w5 ho5 hb5 hg5 hat5)
          obtain ⟨harrD, hbelD, hr0D⟩ := HXD.out
          have hszD := HSD.out
          have hA5 := harrD.kept hg5 (fun e => by have := (HOV.out _ e).1; omega) (fun e => by have := (HOV.out _ e).1; omega)
          have hr5 := (hg5.block w.heap.size (by omega) (fun e => by have := (HOV.out _ e.symm).1; omega)).trans hr0D
          have hbF := hbelD.trans (hb5.mono (by omega))
          have hnx2 := HNX.out
          rw [HD.out] at hnx2
          have HNX2 := Lib.hid hnx2
          clear hnx2
          go_roundw
          case rel => exact ⟨k + 1, by omega, by go_num, by rw [HNX2.out]; exact hA5, by rw [HNX2.out]; have h9 := ho5; simp only [List.map_append, List.map_cons, List.map_nil, dnC] at h9 ⊢; exact h9, hbF, by have := hb5.size; omega, hr5⟩
          case measure => simp [intOf] <;> omega
      · rcases (by omega : kind = 1 ∨ kind = 2 ∨ kind = 3 ∨ kind = 4) with rfl | rfl | rfl | rfl
        · by_cases hbb : block < 0 ∨ 24 ≤ block
          · skip
            have HD : Hid (mvR d st.bl st.z 1 block v = ⟨0, 2, st.bl, st.z⟩) := by unfold Hid mvR; rw [if_neg (by omega), if_pos (by simpa using hbb)]
            have hBD : Below wo.heap.size wo ((wo.alloc (.cells #[.int .i64 1, .int .i64 block, .int .u8 (v : Int)] 99)).alloc (.cells #[.int .i64 2, .int .u8 0] 103)) := ((Below.refl wo.heap.size wo).alloc (Nat.le_refl _) _).alloc (by simp) _
            have harrD := HARR.out.below hBD
            have hownD := HOWN.out.below hBD (Nat.le_refl _)
            have hbelD := HBEL.out.trans (hBD.mono HBEL.out.size)
            have hszD : ((wo.alloc (.cells #[.int .i64 1, .int .i64 block, .int .u8 (v : Int)] 99)).alloc (.cells #[.int .i64 2, .int .u8 0] 103)).heap.size = wo.heap.size + 2 := by simp
            have hr0D := (hBD.block w.heap.size (by omega)).trans HR1.out
            have HXD := Lib.hid (And.intro harrD (And.intro hbelD hr0D))
            have HSD := Lib.hid hszD
            have HOD := Lib.hid hownD
            clear hBD harrD hbelD hr0D hszD hownD
            by_cases hk0 : block < 0
            · go_wp2_with (at_builtin; refine app1K el_done rfl _ _ rfl rfl HOD.out #[.int .i64 2, .int .u8 0] _ (by first | rfl | (go_simp; done) | (go_simp; rfl)) rfl (by simp [Value.oneCell']) (by simp; unfold maxLen; omega) (by simp; omega) (by have := HSD.out; omega) ?_; intro v5 w5 ho5 hb5 hg5 hat5)
              obtain ⟨harrD, hbelD, hr0D⟩ := HXD.out
              have hszD := HSD.out
              have hA5 := harrD.kept hg5 (fun e => by have := (HOV.out _ e).1; omega) (fun e => by have := (HOV.out _ e).1; omega)
              have hr5 := (hg5.block w.heap.size (by omega) (fun e => by have := (HOV.out _ e.symm).1; omega)).trans hr0D
              have hbF := hbelD.trans (hb5.mono (by omega))
              have hnx2 := HNX.out
              rw [HD.out] at hnx2
              have HNX2 := Lib.hid hnx2
              clear hnx2
              go_roundw
              case rel => exact ⟨k + 1, by omega, by go_num, by rw [HNX2.out]; exact hA5, by rw [HNX2.out]; have h9 := ho5; simp only [List.map_append, List.map_cons, List.map_nil, dnC] at h9 ⊢; exact h9, hbF, by have := hb5.size; omega, hr5⟩
              case measure => simp [intOf] <;> omega
            · have hk1 : 24 ≤ block := hbb.resolve_left hk0
              clear hbb
              go_wp2_with (at_builtin; refine app1K el_done rfl _ _ rfl rfl HOD.out #[.int .i64 2, .int .u8 0] _ (by first | rfl | (go_simp; done) | (go_simp; rfl)) rfl (by simp [Value.oneCell']) (by simp; unfold maxLen; omega) (by simp; omega) (by have := HSD.out; omega) ?_; intro v5 w5 ho5 hb5 hg5 hat5)
              obtain ⟨harrD, hbelD, hr0D⟩ := HXD.out
              have hszD := HSD.out
              have hA5 := harrD.kept hg5 (fun e => by have := (HOV.out _ e).1; omega) (fun e => by have := (HOV.out _ e).1; omega)
              have hr5 := (hg5.block w.heap.size (by omega) (fun e => by have := (HOV.out _ e.symm).1; omega)).trans hr0D
              have hbF := hbelD.trans (hb5.mono (by omega))
              have hnx2 := HNX.out
              rw [HD.out] at hnx2
              have HNX2 := Lib.hid hnx2
              clear hnx2
              go_roundw
              case rel => exact ⟨k + 1, by omega, by go_num, by rw [HNX2.out]; exact hA5, by rw [HNX2.out]; have h9 := ho5; simp only [List.map_append, List.map_cons, List.map_nil, dnC] at h9 ⊢; exact h9, hbF, by have := hb5.size; omega, hr5⟩
              case measure => simp [intOf] <;> omega
          · obtain ⟨b, rfl⟩ := Int.eq_ofNat_of_zero_le (show 0 ≤ block by omega)
            have HD : Hid (mvR d st.bl st.z 1 (b : Int) v = ⟨0, 0, st.bl.set b v, st.z⟩) := by
              unfold Hid mvR
              rw [if_neg (by omega), if_neg (by simp; omega)]
              simp
            have hB2 : Below wo.heap.size wo ((wo.alloc (.cells #[.int .i64 1, .int .i64 (b : Int), .int .u8 (v : Int)] 99)).alloc (.cells #[.int .i64 0, .int .u8 0] 103)) := ((Below.refl wo.heap.size wo).alloc (Nat.le_refl _) _).alloc (by simp) _
            have cm := ref_move1 w.heap.size ab (w.heap.size + 1) st.bl st.z _ (HARR.out.below hB2) b v (by omega)
            have hs2 : ((wo.alloc (.cells #[.int .i64 1, .int .i64 (b : Int), .int .u8 (v : Int)] 99)).alloc (.cells #[.int .i64 0, .int .u8 0] 103)).heap.size = wo.heap.size + 2 := by simp
            have hD2 : ((wo.alloc (.cells #[.int .i64 1, .int .i64 (b : Int), .int .u8 (v : Int)] 99)).alloc (.cells #[.int .i64 0, .int .u8 0] 103)).heap[wo.heap.size + 1]? = some (.cells #[.int .i64 0, .int .u8 0] 103 (0, 0)) := by
              have := heap_alloc_new (wo.alloc (.cells #[.int .i64 1, .int .i64 (b : Int), .int .u8 (v : Int)] 99)) (.cells #[.int .i64 0, .int .u8 0] 103)
              simpa using this
            have HB2 := Lib.hid hB2
            have HS2 := Lib.hid hs2
            have HD2 := Lib.hid hD2
            obtain ⟨V, hV⟩ : ∃ V : Nat, (0) = V := ⟨_, rfl⟩
            obtain ⟨E, hE⟩ : ∃ E : Nat, (0) = E := ⟨_, rfl⟩
            obtain ⟨BL, hBL⟩ : ∃ BL : List Nat, st.bl.set b v = BL := ⟨_, rfl⟩
            obtain ⟨Z, hZ⟩ : ∃ Z : Int, (st.z) = Z := ⟨_, rfl⟩
            rw [hBL] at cm HD
            have j0 : (0 : Int) ≤ (b : Int) := by omega
            have j1 : (b : Int) < 24 := by omega
            clear hB2 hs2 hD2 hV hE hBL hZ
            go_wp2_with (first
              | (go_at_call 45; refine cm.mono ?_; clear cm; rintro e w3 ⟨rfl, ha3, o1, o2, o3, o4, o5⟩; obtain ⟨q1, q2, q3, q4, q5, q6, q7, q8, q9, q10⟩ := mv_after (.int .i64 0) (.int .u8 0) HB2.out HS2.out HD2.out o1 o2 o3 o4 o5 hsz (by omega); have harrD := ha3.heapAt (q8 ab hsz) (q8 (w.heap.size + 1) (by omega)); have hownD := HOWN.out.heapAt (fun q hq => q9 q (HOV.out q hq).2 (by have := (HOV.out q hq).1; omega) (by have := (HOV.out q hq).1; omega)); have hbelD := HBEL.out.trans (q10 w.heap.size HBEL.out.size (by omega) (by omega)); have hr0D := (q9 w.heap.size (by omega) (by omega) (by omega)).trans HR1.out; have HXD := Lib.hid (And.intro harrD (And.intro hbelD hr0D)); have HSD := Lib.hid q7; have HOD := Lib.hid hownD; clear harrD hownD hbelD hr0D q7 q8 q9 q10 o1 o2 o3 o4 o5 ha3)
              | (at_builtin; refine app1K el_done rfl _ _ rfl rfl HOD.out #[.int .i64 0, .int .u8 0] _ (by first | rfl | (go_simp; done) | (go_simp; rfl)) rfl (by simp [Value.oneCell']) (by simp; unfold maxLen; omega) (by simp; omega) (by have := HSD.out; omega) ?_; intro v5 w5 ho5 hb5 hg5 hat5))
            obtain ⟨harrD, hbelD, hr0D⟩ := HXD.out
            have hszD := HSD.out
            have hA5 := harrD.kept hg5 (fun e => by have := (HOV.out _ e).1; omega) (fun e => by have := (HOV.out _ e).1; omega)
            have hr5 := (hg5.block w.heap.size (by omega) (fun e => by have := (HOV.out _ e.symm).1; omega)).trans hr0D
            have hbF := hbelD.trans (hb5.mono (by omega))
            have hnx2 := HNX.out
            rw [HD.out] at hnx2
            have HNX2 := Lib.hid hnx2
            clear hnx2
            go_roundw
            case rel => exact ⟨k + 1, by omega, by go_num, by rw [HNX2.out]; exact hA5, by rw [HNX2.out]; have h9 := ho5; simp only [List.map_append, List.map_cons, List.map_nil, dnC] at h9 ⊢; exact h9, hbF, by have := hb5.size; omega, hr5⟩
            case measure => simp [intOf] <;> omega
        · by_cases hbb : block < 0 ∨ 24 ≤ block
          · skip
            have HD : Hid (mvR d st.bl st.z 2 block v = ⟨0, 2, st.bl, st.z⟩) := by unfold Hid mvR; rw [if_neg (by omega), if_pos (by simpa using hbb)]
            have hBD : Below wo.heap.size wo ((wo.alloc (.cells #[.int .i64 2, .int .i64 block, .int .u8 (v : Int)] 99)).alloc (.cells #[.int .i64 2, .int .u8 0] 103)) := ((Below.refl wo.heap.size wo).alloc (Nat.le_refl _) _).alloc (by simp) _
            have harrD := HARR.out.below hBD
            have hownD := HOWN.out.below hBD (Nat.le_refl _)
            have hbelD := HBEL.out.trans (hBD.mono HBEL.out.size)
            have hszD : ((wo.alloc (.cells #[.int .i64 2, .int .i64 block, .int .u8 (v : Int)] 99)).alloc (.cells #[.int .i64 2, .int .u8 0] 103)).heap.size = wo.heap.size + 2 := by simp
            have hr0D := (hBD.block w.heap.size (by omega)).trans HR1.out
            have HXD := Lib.hid (And.intro harrD (And.intro hbelD hr0D))
            have HSD := Lib.hid hszD
            have HOD := Lib.hid hownD
            clear hBD harrD hbelD hr0D hszD hownD
            by_cases hk0 : block < 0
            · go_wp2_with (at_builtin; refine app1K el_done rfl _ _ rfl rfl HOD.out #[.int .i64 2, .int .u8 0] _ (by first | rfl | (go_simp; done) | (go_simp; rfl)) rfl (by simp [Value.oneCell']) (by simp; unfold maxLen; omega) (by simp; omega) (by have := HSD.out; omega) ?_; intro v5 w5 ho5 hb5 hg5 hat5)
              obtain ⟨harrD, hbelD, hr0D⟩ := HXD.out
              have hszD := HSD.out
              have hA5 := harrD.kept hg5 (fun e => by have := (HOV.out _ e).1; omega) (fun e => by have := (HOV.out _ e).1; omega)
              have hr5 := (hg5.block w.heap.size (by omega) (fun e => by have := (HOV.out _ e.symm).1; omega)).trans hr0D
              have hbF := hbelD.trans (hb5.mono (by omega))
              have hnx2 := HNX.out
              rw [HD.out] at hnx2
              have HNX2 := Lib.hid hnx2
              clear hnx2
              go_roundw
              case rel => exact ⟨k + 1, by omega, by go_num, by rw [HNX2.out]; exact hA5, by rw [HNX2.out]; have h9 := ho5; simp only [List.map_append, List.map_cons, List.map_nil, dnC] at h9 ⊢; exact h9, hbF, by have := hb5.size; omega, hr5⟩
              case measure => simp [intOf] <;> omega
            · have hk1 : 24 ≤ block := hbb.resolve_left hk0
              clear hbb
              go_wp2_with (at_builtin; refine app1K el_done rfl _ _ rfl rfl HOD.out #[.int .i64 2, .int .u8 0] _ (by first | rfl | (go_simp; done) | (go_simp; rfl)) rfl (by simp [Value.oneCell']) (by simp; unfold maxLen; omega) (by simp; omega) (by have := HSD.out; omega) ?_; intro v5 w5 ho5 hb5 hg5 hat5)
              obtain ⟨harrD, hbelD, hr0D⟩ := HXD.out
              have hszD := HSD.out
              have hA5 := harrD.kept hg5 (fun e => by have := (HOV.out _ e).1; omega) (fun e => by have := (HOV.out _ e).1; omega)
              have hr5 := (hg5.block w.heap.size (by omega) (fun e => by have := (HOV.out _ e.symm).1; omega)).trans hr0D
              have hbF := hbelD.trans (hb5.mono (by omega))
              have hnx2 := HNX.out
              rw [HD.out] at hnx2
              have HNX2 := Lib.hid hnx2
              clear hnx2
              go_roundw
              case rel => exact ⟨k + 1, by omega, by go_num, by rw [HNX2.out]; exact hA5, by rw [HNX2.out]; have h9 := ho5; simp only [List.map_append, List.map_cons, List.map_nil, dnC] at h9 ⊢; exact h9, hbF, by have := hb5.size; omega, hr5⟩
              case measure => simp [intOf] <;> omega
          · obtain ⟨b, rfl⟩ := Int.eq_ofNat_of_zero_le (show 0 ≤ block by omega)
            have HD : Hid (mvR d st.bl st.z 2 (b : Int) v = ⟨st.bl.getD b 0, 0, st.bl, st.z⟩) := by
              unfold Hid mvR
              rw [if_neg (by omega), if_neg (by simp; omega)]
              simp
            have hB2 : Below wo.heap.size wo ((wo.alloc (.cells #[.int .i64 2, .int .i64 (b : Int), .int .u8 (v : Int)] 99)).alloc (.cells #[.int .i64 0, .int .u8 0] 103)) := ((Below.refl wo.heap.size wo).alloc (Nat.le_refl _) _).alloc (by simp) _
            have cm := ref_move2 w.heap.size ab (w.heap.size + 1) st.bl st.z _ (HARR.out.below hB2) b v (by omega)
            have hs2 : ((wo.alloc (.cells #[.int .i64 2, .int .i64 (b : Int), .int .u8 (v : Int)] 99)).alloc (.cells #[.int .i64 0, .int .u8 0] 103)).heap.size = wo.heap.size + 2 := by simp
            have hD2 : ((wo.alloc (.cells #[.int .i64 2, .int .i64 (b : Int), .int .u8 (v : Int)] 99)).alloc (.cells #[.int .i64 0, .int .u8 0] 103)).heap[wo.heap.size + 1]? = some (.cells #[.int .i64 0, .int .u8 0] 103 (0, 0)) := by
              have := heap_alloc_new (wo.alloc (.cells #[.int .i64 2, .int .i64 (b : Int), .int .u8 (v : Int)] 99)) (.cells #[.int .i64 0, .int .u8 0] 103)
              simpa using this
            have HB2 := Lib.hid hB2
            have HS2 := Lib.hid hs2
            have HD2 := Lib.hid hD2
            obtain ⟨V, hV⟩ : ∃ V : Nat, (st.bl.getD b 0) = V := ⟨_, rfl⟩
            obtain ⟨E, hE⟩ : ∃ E : Nat, (0) = E := ⟨_, rfl⟩
            obtain ⟨BL, hBL⟩ : ∃ BL : List Nat, st.bl = BL := ⟨_, rfl⟩
            obtain ⟨Z, hZ⟩ : ∃ Z : Int, (st.z) = Z := ⟨_, rfl⟩
            rw [hV] at cm HD
            have j0 : (0 : Int) ≤ (b : Int) := by omega
            have j1 : (b : Int) < 24 := by omega
            clear hB2 hs2 hD2 hV hE hBL hZ
            go_wp2_with (first
              | (go_at_call 45; refine cm.mono ?_; clear cm; rintro e w3 ⟨rfl, ha3, o1, o2, o3, o4, o5⟩; obtain ⟨q1, q2, q3, q4, q5, q6, q7, q8, q9, q10⟩ := mv_after (.int .i64 0) (.int .u8 (V : Int)) HB2.out HS2.out HD2.out o1 o2 o3 o4 o5 hsz (by omega); have harrD := ha3.heapAt (q8 ab hsz) (q8 (w.heap.size + 1) (by omega)); have hownD := HOWN.out.heapAt (fun q hq => q9 q (HOV.out q hq).2 (by have := (HOV.out q hq).1; omega) (by have := (HOV.out q hq).1; omega)); have hbelD := HBEL.out.trans (q10 w.heap.size HBEL.out.size (by omega) (by omega)); have hr0D := (q9 w.heap.size (by omega) (by omega) (by omega)).trans HR1.out; have HXD := Lib.hid (And.intro harrD (And.intro hbelD hr0D)); have HSD := Lib.hid q7; have HOD := Lib.hid hownD; clear harrD hownD hbelD hr0D q7 q8 q9 q10 o1 o2 o3 o4 o5 ha3)
              | (at_builtin; refine app1K el_done rfl _ _ rfl rfl HOD.out #[.int .i64 0, .int .u8 (V : Int)] _ (by first | rfl | (go_simp; done) | (go_simp; rfl)) rfl (by simp [Value.oneCell']) (by simp; unfold maxLen; omega) (by simp; omega) (by have := HSD.out; omega) ?_; intro v5 w5 ho5 hb5 hg5 hat5))
            obtain ⟨harrD, hbelD, hr0D⟩ := HXD.out
            have hszD := HSD.out
            have hA5 := harrD.kept hg5 (fun e => by have := (HOV.out _ e).1; omega) (fun e => by have := (HOV.out _ e).1; omega)
            have hr5 := (hg5.block w.heap.size (by omega) (fun e => by have := (HOV.out _ e.symm).1; omega)).trans hr0D
            have hbF := hbelD.trans (hb5.mono (by omega))
            have hnx2 := HNX.out
            rw [HD.out] at hnx2
            have HNX2 := Lib.hid hnx2
            clear hnx2
            go_roundw
            case rel => exact ⟨k + 1, by omega, by go_num, by rw [HNX2.out]; exact hA5, by rw [HNX2.out]; have h9 := ho5; simp only [List.map_append, List.map_cons, List.map_nil, dnC] at h9 ⊢; exact h9, hbF, by have := hb5.size; omega, hr5⟩
            case measure => simp [intOf] <;> omega
        · by_cases hbb : block < 0 ∨ (d : Int) ≤ block
          · skip
            have HD : Hid (mvR d st.bl st.z 3 block v = ⟨0, 2, st.bl, st.z⟩) := by unfold Hid mvR; rw [if_neg (by omega), if_pos (by simpa using hbb)]
            have hBD : Below wo.heap.size wo ((wo.alloc (.cells #[.int .i64 3, .int .i64 block, .int .u8 (v : Int)] 99)).alloc (.cells #[.int .i64 2, .int .u8 0] 103)) := ((Below.refl wo.heap.size wo).alloc (Nat.le_refl _) _).alloc (by simp) _
            have harrD := HARR.out.below hBD
            have hownD := HOWN.out.below hBD (Nat.le_refl _)
            have hbelD := HBEL.out.trans (hBD.mono HBEL.out.size)
            have hszD : ((wo.alloc (.cells #[.int .i64 3, .int .i64 block, .int .u8 (v : Int)] 99)).alloc (.cells #[.int .i64 2, .int .u8 0] 103)).heap.size = wo.heap.size + 2 := by simp
            have hr0D := (hBD.block w.heap.size (by omega)).trans HR1.out
            have HXD := Lib.hid (And.intro harrD (And.intro hbelD hr0D))
            have HSD := Lib.hid hszD
            have HOD := Lib.hid hownD
            clear hBD harrD hbelD hr0D hszD hownD
            by_cases hk0 : block < 0
            · go_wp2_with (at_builtin; refine app1K el_done rfl _ _ rfl rfl HOD.out #[.int .i64 2, .int .u8 0] _ (by first | rfl | (go_simp; done) | (go_simp; rfl)) rfl (by simp [Value.oneCell']) (by simp; unfold maxLen; omega) (by simp; omega) (by have := HSD.out; omega) ?_; intro v5 w5 ho5 hb5 hg5 hat5)
              obtain ⟨harrD, hbelD, hr0D⟩ := HXD.out
              have hszD := HSD.out
              have hA5 := harrD.kept hg5 (fun e => by have := (HOV.out _ e).1; omega) (fun e => by have := (HOV.out _ e).1; omega)
              have hr5 := (hg5.block w.heap.size (by omega) (fun e => by have := (HOV.out _ e.symm).1; omega)).trans hr0D
              have hbF := hbelD.trans (hb5.mono (by omega))
              have hnx2 := HNX.out
              rw [HD.out] at hnx2
              have HNX2 := Lib.hid hnx2
              clear hnx2
              go_roundw
              case rel => exact ⟨k + 1, by omega, by go_num, by rw [HNX2.out]; exact hA5, by rw [HNX2.out]; have h9 := ho5; simp only [List.map_append, List.map_cons, List.map_nil, dnC] at h9 ⊢; exact h9, hbF, by have := hb5.size; omega, hr5⟩
              case measure => simp [intOf] <;> omega
            · have hk1 : (d : Int) ≤ block := hbb.resolve_left hk0
              clear hbb
              go_wp2_with (at_builtin; refine app1K el_done rfl _ _ rfl rfl HOD.out #[.int .i64 2, .int .u8 0] _ (by first | rfl | (go_simp; done) | (go_simp; rfl)) rfl (by simp [Value.oneCell']) (by simp; unfold maxLen; omega) (by simp; omega) (by have := HSD.out; omega) ?_; intro v5 w5 ho5 hb5 hg5 hat5)
              obtain ⟨harrD, hbelD, hr0D⟩ := HXD.out
              have hszD := HSD.out
              have hA5 := harrD.kept hg5 (fun e => by have := (HOV.out _ e).1; omega) (fun e => by have := (HOV.out _ e).1; omega)
              have hr5 := (hg5.block w.heap.size (by omega) (fun e => by have := (HOV.out _ e.symm).1; omega)).trans hr0D
              have hbF := hbelD.trans (hb5.mono (by omega))
              have hnx2 := HNX.out
              rw [HD.out] at hnx2
              have HNX2 := Lib.hid hnx2
              clear hnx2
              go_roundw
              case rel => exact ⟨k + 1, by omega, by go_num, by rw [HNX2.out]; exact hA5, by rw [HNX2.out]; have h9 := ho5; simp only [List.map_append, List.map_cons, List.map_nil, dnC] at h9 ⊢; exact h9, hbF, by have := hb5.size; omega, hr5⟩
              case measure => simp [intOf] <;> omega
          · obtain ⟨b, rfl⟩ := Int.eq_ofNat_of_zero_le (show 0 ≤ block by omega)
            have HD : Hid (mvR d st.bl st.z 3 (b : Int) v = ⟨0, if 0 ≤ st.z then 7 else 0, st.bl, if 0 ≤ st.z then st.z else (b : Int)⟩) := by
              unfold Hid mvR
              rw [if_neg (by omega), if_neg (by simp; omega)]
              by_cases hz : 0 ≤ st.z <;> simp [hz]
            have hB2 : Below wo.heap.size wo ((wo.alloc (.cells #[.int .i64 3, .int .i64 (b : Int), .int .u8 (v : Int)] 99)).alloc (.cells #[.int .i64 0, .int .u8 0] 103)) := ((Below.refl wo.heap.size wo).alloc (Nat.le_refl _) _).alloc (by simp) _
            have cm := ref_move3 w.heap.size ab (w.heap.size + 1) st.bl st.z _ (HARR.out.below hB2) b v
            have hs2 : ((wo.alloc (.cells #[.int .i64 3, .int .i64 (b : Int), .int .u8 (v : Int)] 99)).alloc (.cells #[.int .i64 0, .int .u8 0] 103)).heap.size = wo.heap.size + 2 := by simp
            have hD2 : ((wo.alloc (.cells #[.int .i64 3, .int .i64 (b : Int), .int .u8 (v : Int)] 99)).alloc (.cells #[.int .i64 0, .int .u8 0] 103)).heap[wo.heap.size + 1]? = some (.cells #[.int .i64 0, .int .u8 0] 103 (0, 0)) := by
              have := heap_alloc_new (wo.alloc (.cells #[.int .i64 3, .int .i64 (b : Int), .int .u8 (v : Int)] 99)) (.cells #[.int .i64 0, .int .u8 0] 103)
              simpa using this
            have HB2 := Lib.hid hB2
            have HS2 := Lib.hid hs2
            have HD2 := Lib.hid hD2
            obtain ⟨V, hV⟩ : ∃ V : Nat, (0) = V := ⟨_, rfl⟩
            obtain ⟨E, hE⟩ : ∃ E : Nat, (if 0 ≤ st.z then 7 else 0) = E := ⟨_, rfl⟩
            obtain ⟨BL, hBL⟩ : ∃ BL : List Nat, st.bl = BL := ⟨_, rfl⟩
            obtain ⟨Z, hZ⟩ : ∃ Z : Int, (if 0 ≤ st.z then st.z else (b : Int)) = Z := ⟨_, rfl⟩
            rw [hE, hZ] at cm HD
            have j0 : (0 : Int) ≤ (b : Int) := by omega
            have j1 : (b : Int) < (d : Int) := by omega
            clear hB2 hs2 hD2 hV hE hBL hZ
            go_wp2_with (first
              | (go_at_call 45; refine cm.mono ?_; clear cm; rintro e w3 ⟨rfl, ha3, o1, o2, o3, o4, o5⟩; obtain ⟨q1, q2, q3, q4, q5, q6, q7, q8, q9, q10⟩ := mv_after (.int .i64 (E : Int)) (.int .u8 0) HB2.out HS2.out HD2.out o1 o2 o3 o4 o5 hsz (by omega); have harrD := ha3.heapAt (q8 ab hsz) (q8 (w.heap.size + 1) (by omega)); have hownD := HOWN.out.heapAt (fun q hq => q9 q (HOV.out q hq).2 (by have := (HOV.out q hq).1; omega) (by have := (HOV.out q hq).1; omega)); have hbelD := HBEL.out.trans (q10 w.heap.size HBEL.out.size (by omega) (by omega)); have hr0D := (q9 w.heap.size (by omega) (by omega) (by omega)).trans HR1.out; have HXD := Lib.hid (And.intro harrD (And.intro hbelD hr0D)); have HSD := Lib.hid q7; have HOD := Lib.hid hownD; clear harrD hownD hbelD hr0D q7 q8 q9 q10 o1 o2 o3 o4 o5 ha3)
              | (at_builtin; refine app1K el_done rfl _ _ rfl rfl HOD.out #[.int .i64 (E : Int), .int .u8 0] _ (by first | rfl | (go_simp; done) | (go_simp; rfl)) rfl (by simp [Value.oneCell']) (by simp; unfold maxLen; omega) (by simp; omega) (by have := HSD.out; omega) ?_; intro v5 w5 ho5 hb5 hg5 hat5))
            obtain ⟨harrD, hbelD, hr0D⟩ := HXD.out
            have hszD := HSD.out
            have hA5 := harrD.kept hg5 (fun e => by have := (HOV.out _ e).1; omega) (fun e => by have := (HOV.out _ e).1; omega)
            have hr5 := (hg5.block w.heap.size (by omega) (fun e => by have := (HOV.out _ e.symm).1; omega)).trans hr0D
            have hbF := hbelD.trans (hb5.mono (by omega))
            have hnx2 := HNX.out
            rw [HD.out] at hnx2
            have HNX2 := Lib.hid hnx2
            clear hnx2
            go_roundw
            case rel => exact ⟨k + 1, by omega, by go_num, by rw [HNX2.out]; exact hA5, by rw [HNX2.out]; have h9 := ho5; simp only [List.map_append, List.map_cons, List.map_nil, dnC] at h9 ⊢; exact h9, hbF, by have := hb5.size; omega, hr5⟩
            case measure => simp [intOf] <;> omega
        · by_cases hbb : block < 0 ∨ (d : Int) ≤ block
          · skip
            have HD : Hid (mvR d st.bl st.z 4 block v = ⟨0, 2, st.bl, st.z⟩) := by unfold Hid mvR; rw [if_neg (by omega), if_pos (by simpa using hbb)]
            have hBD : Below wo.heap.size wo ((wo.alloc (.cells #[.int .i64 4, .int .i64 block, .int .u8 (v : Int)] 99)).alloc (.cells #[.int .i64 2, .int .u8 0] 103)) := ((Below.refl wo.heap.size wo).alloc (Nat.le_refl _) _).alloc (by simp) _
            have harrD := HARR.out.below hBD
            have hownD := HOWN.out.below hBD (Nat.le_refl _)
            have hbelD := HBEL.out.trans (hBD.mono HBEL.out.size)
            have hszD : ((wo.alloc (.cells #[.int .i64 4, .int .i64 block, .int .u8 (v : Int)] 99)).alloc (.cells #[.int .i64 2, .int .u8 0] 103)).heap.size = wo.heap.size + 2 := by simp
            have hr0D := (hBD.block w.heap.size (by omega)).trans HR1.out
            have HXD := Lib.hid (And.intro harrD (And.intro hbelD hr0D))
            have HSD := Lib.hid hszD
            have HOD := Lib.hid hownD
            clear hBD harrD hbelD hr0D hszD hownD
            by_cases hk0 : block < 0
            · go_wp2_with (at_builtin; refine app1K el_done rfl _ _ rfl rfl HOD.out #[.int .i64 2, .int .u8 0] _ (by first | rfl | (go_simp; done) | (go_simp; rfl)) rfl (by simp [Value.oneCell']) (by simp; unfold maxLen; omega) (by simp; omega) (by have := HSD.out; omega) ?_; intro v5 w5 ho5 hb5 hg5 hat5)
              obtain ⟨harrD, hbelD, hr0D⟩ := HXD.out
              have hszD := HSD.out
              have hA5 := harrD.kept hg5 (fun e => by have := (HOV.out _ e).1; omega) (fun e => by have := (HOV.out _ e).1; omega)
              have hr5 := (hg5.block w.heap.size (by omega) (fun e => by have := (HOV.out _ e.symm).1; omega)).trans hr0D
              have hbF := hbelD.trans (hb5.mono (by omega))
              have hnx2 := HNX.out
              rw [HD.out] at hnx2
              have HNX2 := Lib.hid hnx2
              clear hnx2
              go_roundw
              case rel => exact ⟨k + 1, by omega, by go_num, by rw [HNX2.out]; exact hA5, by rw [HNX2.out]; have h9 := ho5; simp only [List.map_append, List.map_cons, List.map_nil, dnC] at h9 ⊢; exact h9, hbF, by have := hb5.size; omega, hr5⟩
              case measure => simp [intOf] <;> omega
            · have hk1 : (d : Int) ≤ block := hbb.resolve_left hk0
              clear hbb
              go_wp2_with (at_builtin; refine app1K el_done rfl _ _ rfl rfl HOD.out #[.int .i64 2, .int .u8 0] _ (by first | rfl | (go_simp; done) | (go_simp; rfl)) rfl (by simp [Value.oneCell']) (by simp; unfold maxLen; omega) (by simp; omega) (by have := HSD.out; omega) ?_; intro v5 w5 ho5 hb5 hg5 hat5)
              obtain ⟨harrD, hbelD, hr0D⟩ := HXD.out
              have hszD := HSD.out
              have hA5 := harrD.kept hg5 (fun e => by have := (HOV.out _ e).1; omega) (fun e => by have := (HOV.out _ e).1; omega)
              have hr5 := (hg5.block w.heap.size (by omega) (fun e => by have := (HOV.out _ e.symm).1; omega)).trans hr0D
              have hbF := hbelD.trans (hb5.mono (by omega))
              have hnx2 := HNX.out
              rw [HD.out] at hnx2
              have HNX2 := Lib.hid hnx2
              clear hnx2
              go_roundw
              case rel => exact ⟨k + 1, by omega, by go_num, by rw [HNX2.out]; exact hA5, by rw [HNX2.out]; have h9 := ho5; simp only [List.map_append, List.map_cons, List.map_nil, dnC] at h9 ⊢; exact h9, hbF, by have := hb5.size; omega, hr5⟩
              case measure => simp [intOf] <;> omega
          · obtain ⟨b, rfl⟩ := Int.eq_ofNat_of_zero_le (show 0 ≤ block by omega)
            have HD : Hid (mvR d st.bl st.z 4 (b : Int) v = ⟨0, if (b : Int) = st.z then 0 else 7, st.bl, if (b : Int) = st.z then -1 else st.z⟩) := by
              unfold Hid mvR
              rw [if_neg (by omega), if_neg (by simp; omega)]
              by_cases hz : (b : Int) = st.z <;> simp [hz]
            have hB2 : Below wo.heap.size wo ((wo.alloc (.cells #[.int .i64 4, .int .i64 (b : Int), .int .u8 (v : Int)] 99)).alloc (.cells #[.int .i64 0, .int .u8 0] 103)) := ((Below.refl wo.heap.size wo).alloc (Nat.le_refl _) _).alloc (by simp) _
            have cm := ref_move4 w.heap.size ab (w.heap.size + 1) st.bl st.z _ (HARR.out.below hB2) b v
            have hs2 : ((wo.alloc (.cells #[.int .i64 4, .int .i64 (b : Int), .int .u8 (v : Int)] 99)).alloc (.cells #[.int .i64 0, .int .u8 0] 103)).heap.size = wo.heap.size + 2 := by simp
            have hD2 : ((wo.alloc (.cells #[.int .i64 4, .int .i64 (b : Int), .int .u8 (v : Int)] 99)).alloc (.cells #[.int .i64 0, .int .u8 0] 103)).heap[wo.heap.size + 1]? = some (.cells #[.int .i64 0, .int .u8 0] 103 (0, 0)) := by
              have := heap_alloc_new (wo.alloc (.cells #[.int .i64 4, .int .i64 (b : Int), .int .u8 (v : Int)] 99)) (.cells #[.int .i64 0, .int .u8 0] 103)
              simpa using this
            have HB2 := Lib.hid hB2
            have HS2 := Lib.hid hs2
            have HD2 := Lib.hid hD2
            obtain ⟨V, hV⟩ : ∃ V : Nat, (0) = V := ⟨_, rfl⟩
            obtain ⟨E, hE⟩ : ∃ E : Nat, (if (b : Int) = st.z then 0 else 7) = E := ⟨_, rfl⟩
            obtain ⟨BL, hBL⟩ : ∃ BL : List Nat, st.bl = BL := ⟨_, rfl⟩
            obtain ⟨Z, hZ⟩ : ∃ Z : Int, (if (b : Int) = st.z then -1 else st.z) = Z := ⟨_, rfl⟩
            rw [hE, hZ] at cm HD
            have j0 : (0 : Int) ≤ (b : Int) := by omega
            have j1 : (b : Int) < (d : Int) := by omega
            clear hB2 hs2 hD2 hV hE hBL hZ
            go_wp2_with (first
              | (go_at_call 45; refine cm.mono ?_; clear cm; rintro e w3 ⟨rfl, ha3, o1, o2, o3, o4, o5⟩; obtain ⟨q1, q2, q3, q4, q5, q6, q7, q8, q9, q10⟩ := mv_after (.int .i64 (E : Int)) (.int .u8 0) HB2.out HS2.out HD2.out o1 o2 o3 o4 o5 hsz (by omega); have harrD := ha3.heapAt (q8 ab hsz) (q8 (w.heap.size + 1) (by omega)); have hownD := HOWN.out.heapAt (fun q hq => q9 q (HOV.out q hq).2 (by have := (HOV.out q hq).1; omega) (by have := (HOV.out q hq).1; omega)); have hbelD := HBEL.out.trans (q10 w.heap.size HBEL.out.size (by omega) (by omega)); have hr0D := (q9 w.heap.size (by omega) (by omega) (by omega)).trans HR1.out; have HXD := Lib.hid (And.intro harrD (And.intro hbelD hr0D)); have HSD := Lib.hid q7; have HOD := Lib.hid hownD; clear harrD hownD hbelD hr0D q7 q8 q9 q10 o1 o2 o3 o4 o5 ha3)
              | (at_builtin; refine app1K el_done rfl _ _ rfl rfl HOD.out #[.int .i64 (E : Int), .int .u8 0] _ (by first | rfl | (go_simp; done) | (go_simp; rfl)) rfl (by simp [Value.oneCell']) (by simp; unfold maxLen; omega) (by simp; omega) (by have := HSD.out; omega) ?_; intro v5 w5 ho5 hb5 hg5 hat5))
            obtain ⟨harrD, hbelD, hr0D⟩ := HXD.out
            have hszD := HSD.out
            have hA5 := harrD.kept hg5 (fun e => by have := (HOV.out _ e).1; omega) (fun e => by have := (HOV.out _ e).1; omega)
            have hr5 := (hg5.block w.heap.size (by omega) (fun e => by have := (HOV.out _ e.symm).1; omega)).trans hr0D
            have hbF := hbelD.trans (hb5.mono (by omega))
            have hnx2 := HNX.out
            rw [HD.out] at hnx2
            have HNX2 := Lib.hid hnx2
            clear hnx2
            go_roundw
            case rel => exact ⟨k + 1, by omega, by go_num, by rw [HNX2.out]; exact hA5, by rw [HNX2.out]; have h9 := ho5; simp only [List.map_append, List.map_cons, List.map_nil, dnC] at h9 ⊢; exact h9, hbF, by have := hb5.size; omega, hr5⟩
            case measure => simp [intOf] <;> omega
    · obtain rfl : n = k := by omega
      have hol := playR_len d l n
      obtain ⟨m, hm⟩ : ∃ m, (playR d l n).outs.length = m := ⟨_, rfl⟩
      obtain ⟨A2, c2, e2⟩ := dn_form hown hm
      subst e2
      rw [hm] at hol
      have c0 : wo.cell? ⟨ab, 0, none⟩ = some (.slice (some ⟨w.heap.size + 1, 0, none⟩) 24 24) := by simp [World.cell?, harr.box]
      have c1 : wo.cell? ⟨ab, 1, none⟩ = some (.int .i64 (playR d l n).z) := by simp [World.cell?, harr.box]
      have d0 : wo.cell? ⟨w.heap.size, 0, none⟩ = some (.slice none 0 0) := by simp [World.cell?, hr0]
      have d1 : wo.cell? ⟨w.heap.size, 1, none⟩ = some (.int .i64 0) := by simp [World.cell?, hr0]
      have f0 : wo.frozen? ⟨w.heap.size, 0, none⟩ = false := by simp [World.frozen?, hr0]
      have f1 : wo.frozen? ⟨w.heap.size, 1, none⟩ = false := by simp [World.frozen?, hr0]
      have HARR := Lib.hid harr
      have HOWN := Lib.hid hown
      have HBEL := Lib.hid hbel
      have HR1 := Lib.hid hr0
      clear harr hown hbel hr0 hm
      go_wp2
      go_region
      go_wp2
      have HW4 : ((wo.setCell ⟨w.heap.size, 0, none⟩ (.slice (some ⟨w.heap.size + 1, 0, none⟩) 24 24)).setCell ⟨w.heap.size, 1, none⟩ (.int .i64 (playR d l n).z)).drew.heap[w.heap.size]? = some (.cells #[.slice (some ⟨w.heap.size + 1, 0, none⟩) 24 24, .int .i64 (playR d l n).z] 61 (0, 0)) := by
        have h1 : (wo.setCell ⟨w.heap.size, 0, none⟩ (.slice (some ⟨w.heap.size + 1, 0, none⟩) 24 24)).heap[w.heap.size]? = some (.cells #[.slice (some ⟨w.heap.size + 1, 0, none⟩) 24 24, .int .i64 0] 61 (0, 0)) := by
          simp [World.setCell, Array.getElem?_modify, HR1.out]
        generalize wo.setCell ⟨w.heap.size, 0, none⟩ (.slice (some ⟨w.heap.size + 1, 0, none⟩) 24 24) = wv at *
        show (wv.setCell ⟨w.heap.size, 1, none⟩ _).heap[w.heap.size]? = _
        simp [World.setCell, Array.getElem?_modify, h1]
      have hk0 : ((wo.setCell ⟨w.heap.size, 0, none⟩ (.slice (some ⟨w.heap.size + 1, 0, none⟩) 24 24)).setCell ⟨w.heap.size, 1, none⟩ (.int .i64 (playR d l n).z)).drew.cell? ⟨w.heap.size, 0, none⟩ = some (.slice (some ⟨w.heap.size + 1, 0, none⟩) 24 24) := by simp only [World.cell?, HW4]; rfl
      have hk1 : ((wo.setCell ⟨w.heap.size, 0, none⟩ (.slice (some ⟨w.heap.size + 1, 0, none⟩) 24 24)).setCell ⟨w.heap.size, 1, none⟩ (.int .i64 (playR d l n).z)).drew.cell? ⟨w.heap.size, 1, none⟩ = some (.int .i64 (playR d l n).z) := by simp only [World.cell?, HW4]; rfl
      have hOF := (HOWN.out.low (B := w.heap.size) (by omega)).heapAt (w' := ((wo.setCell ⟨w.heap.size, 0, none⟩ (.slice (some ⟨w.heap.size + 1, 0, none⟩) 24 24)).setCell ⟨w.heap.size, 1, none⟩ (.int .i64 (playR d l n).z)).drew) (fun q hq => by
        have hq2 := (HOWN.out.lt q hq).1
        show ((wo.setCell ⟨w.heap.size, 0, none⟩ (.slice (some ⟨w.heap.size + 1, 0, none⟩) 24 24)).setCell ⟨w.heap.size, 1, none⟩ (.int .i64 (playR d l n).z)).heap[q]? = _
        rw [Below.heap_setCell _ _ _ q (by show q ≠ w.heap.size; omega), Below.heap_setCell _ _ _ q (by show q ≠ w.heap.size; omega)])
      have hRF := ((HARR.out.row.setOther ⟨w.heap.size, 0, none⟩ (.slice (some ⟨w.heap.size + 1, 0, none⟩) 24 24) (by simp [Value.ownBlock])).setOther ⟨w.heap.size, 1, none⟩ (.int .i64 (playR d l n).z) (by simp [Value.ownBlock])).drew
      have hBF := ((HBEL.out.setCell (p := ⟨w.heap.size, 0, none⟩) (Nat.le_refl _) (.slice (some ⟨w.heap.size + 1, 0, none⟩) 24 24)).setCell (p := ⟨w.heap.size, 1, none⟩) (Nat.le_refl _) (.int .i64 (playR d l n).z)).drew
      generalize ((wo.setCell ⟨w.heap.size, 0, none⟩ (.slice (some ⟨w.heap.size + 1, 0, none⟩) 24 24)).setCell ⟨w.heap.size, 1, none⟩ (.int .i64 (playR d l n).z)).drew = wf at *
      (try simp only [Exit.inBlock, Exit.then])
      refine bodyPost_ret (v := .tuple #[.slice A2 m c2, .agg #[.slice (some ⟨w.heap.size + 1, 0, none⟩) 24 24, .int .i64 (playR d l n).z]]) (by simp [results, Try.f26, go_sem, hk0, hk1]) rfl ?_
      exact ⟨A2, m, c2, w.heap.size + 1, rfl, hOF, by omega, hRF, hBF⟩
end Go.Proofs.Ytglcljlafioleaa

/-
  ship.Play.
-/
import Derived.Test.YtglcljlafioleaaShst
import Derived.Deep.OwnRows
set_option linter.unusedVariables false
namespace Go.Proofs.Ytglcljlafioleaa
open Go.RowKit

/-- how many were told -/
def toldS (mode : Nat) (t : ShT) : Nat := if mode = 1 then t.ws.length else t.k
theorem ship_Do {T : TypeId} {X : List Value} (b N c mode s g p k : Nat) (A : Option Addr) (w : World) (h : LineB w b (.slice A N c) mode s g p k T X) (hN : N ≤ 1000) (hs : s ≤ 1000) (hg : g ≤ 1000) (hp : p ≤ 1000) (z : Int) :
    Calls Try.prog 36 #[.pointer (some ⟨b, 0, none⟩), .int .i64 z] w (DoP T X w b (.slice A N c) mode (doS N mode s g p k z)) := by
  by_cases h2 : z = 2
  · subst h2; exact ship_Do2 b N c mode s g p k A w h hN hs hg hp
  by_cases h3 : z = 3
  · subst h3; exact ship_Do3 b N c mode s g p k A w h hN hs hg hp
  by_cases h4 : z = 4
  · subst h4; exact ship_Do4 b N c mode s g p k A w h hN hs hg hp
  by_cases h5 : z = 5
  · subst h5; exact ship_Do5 b N c mode s g p k A w h
  by_cases h6 : z = 6
  · subst h6; exact ship_Do6 b N c mode s g p k A w h
  exact ship_DoX b N c mode s g p k z A w h ⟨h2, h3, h4, h5, h6⟩
theorem el_stepK : ElemK Try.prog 45 85 4 32 := ElemK.mk' (z := .agg #[.int .i64 0, .int .i64 0, .int .i64 0, .int .u8 0]) Try.underlying45 (by kernel_rfl) rfl (by omega)
theorem el_errno : Elem Try.prog 46 24 (.int .i64 0) 8 := Elem.mk' Try.underlying46 (by kernel_rfl) rfl
theorem el_u8P : Elem Try.prog 22 5 (.int .u8 0) 1 := Elem.mk' Try.underlying22 (by kernel_rfl) rfl
theorem make8 (w : World) : (Instr.makeSlice 22 (.int .i64 8) (.int .i64 8)).run Try.prog w = .ok (.slice (some ⟨w.heap.size, 0, none⟩) 8 8) (w.alloc (.cells (madeCells #[.int .u8 0] 8) 5)) := run_make_row' 22 5 (.int .u8 0) 1 Try.underlying22 (by kernel_rfl) rfl .i64 .i64 8 (by omega) (by omega) w
theorem made_list (z : Value) (n : Nat) : (madeCells #[z] n).toList = List.replicate n z := by
  apply List.ext_getElem?
  intro j
  simp only [madeCells, Array.toList_map, List.getElem?_map, List.getElem?_replicate]
  by_cases hj : j < n
  · simp [hj, Nat.mod_one]
  · simp [hj]
theorem own8 {W : World} {B g : Nat} (hg : W.heap[g]? = some (.cells (madeCells #[.int .u8 0] 8) 5 (0, 0))) (hB : B ≤ g) : Own W B 5 (.slice (some ⟨g, 0, none⟩) 8 8) (vn .u8 (List.replicate 8 0)) :=
  ⟨by simp [vn], .inr ⟨g, 8, _, by simp [vn], hB, hg, by simp [vn], by unfold maxLen; omega, by simp [madeCells], by rw [made_list]; simp [vn]⟩⟩
theorem hp_alloc (w : World) (o : Obj) (i : Nat) : (w.alloc o).heap[i]? = if i = w.heap.size then some o else w.heap[i]? := Array.getElem?_push
theorem hp_size (w : World) (o : Obj) : (w.alloc o).heap.size = w.heap.size + 1 := by simp
theorem hp_drew (w : World) : w.drew.heap = w.heap := rfl
theorem ship_start {w W : World} {mode sb gm go : Nat} (hs : w.heap.size ≤ W.heap.size) (ho : W.os = w.os ∧ W.tape = w.tape ∧ W.output = w.output) (hB : ∀ b, b < w.heap.size → W.heap[b]? = w.heap[b]?)
    (h0 : W.heap[w.heap.size]? = some (.cells #[.slice none 0 0, .int .i64 0, .int .i64 0, .int .i64 0, .slice none 0 0, .slice none 0 0] 48 (0, 0)))
    (h1 : W.heap[w.heap.size + 1]? = some (.cells #[.int .i64 (mode : Int), .slice none 0 0, .int .i64 0, .int .i64 0, .int .i64 0, .int .i64 0] 83 (0, 0)))
    (h2 : W.heap[sb]? = some (.cells #[.slice none 0 0, .int .i64 0, .int .i64 0, .int .i64 0, .slice (some ⟨gm, 0, none⟩) 8 8, .slice (some ⟨go, 0, none⟩) 8 8] 48 (0, 0)))
    (h3 : W.heap[gm]? = some (.cells (madeCells #[.int .u8 0] 8) 5 (0, 0))) (h4 : W.heap[go]? = some (.cells (madeCells #[.int .u8 0] 8) 5 (0, 0))) (hne : gm ≠ go) (b1 : w.heap.size ≤ gm) (b2 : w.heap.size ≤ go) (b3 : w.heap.size < sb) :
    ShR W w.heap.size sb gm go (.slice none 0 0) (.slice none 0 0) [] [] (List.replicate 8 0) (List.replicate 8 0) ∧ LineB W (w.heap.size + 1) (.slice none 0 0) mode 0 0 0 0 83 [] ∧ BoxV W w.heap.size 48 [.slice none 0 0, .int .i64 0, .int .i64 0, .int .i64 0, .slice none 0 0, .slice none 0 0] ∧ Below w.heap.size w W ∧ w.heap.size < sb :=
  ⟨⟨h2, Own.nil _ _ _, OwnQ.nil _ _ _ _, own8 h3 b1, own8 h4 b2, hne⟩, h1, h0, ⟨ho.1, ho.2.1, ho.2.2, hs, hB⟩, b3⟩
section
variable {P : Program} {w w' : World} {base k : Nat} {E T : TypeId} {v z : Value} {xs : List Value} {bytes : Nat}
/-- app1s, the world's size told apart -/
theorem app1z {ops : Array Oper} {rest : List Oper} {o : Oper} {a : Act} {Q : Exit → Act → World → Prop} (el : Elem P T E z bytes) (hgd : o.guard = none) (s x : Operand)
    (ho : o.op = .call { callee := .builtin .append, args := #[s, x], argTypes := #[T, T] })
    (hs : a.eval s = v) (hown : Own w base E v xs) (u : Value) (E' : TypeId) (ys : List Value) (n : Nat) (hys : Hid (xs ++ [u] = ys)) (hyn : Hid (ys.length = n)) (sz : Nat) (hx : a.eval x = .slice (some ⟨sz, 0, none⟩) 1 1) (hsz : w.heap.size = sz) (h1 : u.oneCell' = true)
    (h63 : n ≤ maxLen) (hbytes : n * bytes ≤ 140737488355328) (hbase : base ≤ w.heap.size)
    (h : ∀ A' c' w', Own w' base E (.slice A' n c') ys → Below base w w' → w.grownBy w' v.ownBlock → ((Value.slice A' n c').ownBlock = v.ownBlock ∨ (Value.slice A' n c').ownBlock = some (w.heap.size + 1)) → wpList P ops Q rest (a.put o.dst (.slice A' n c')) w') : wpList P ops Q (o :: rest) a (w.alloc (.cells #[u] E')) := by
  subst hsz
  exact app1s el hgd s x ho hs hown u E' ys n hys hyn hx h1 h63 hbytes hbase h
end
theorem ShR.drew {w : World} {B sb gm go : Nat} {CV WV : Value} {codes : List Nat} {ws : List StS} {main other : List Nat} (h : ShR w B sb gm go CV WV codes ws main other) : ShR w.drew B sb gm go CV WV codes ws main other := ⟨h.box, h.cod.drew, h.wri.drew, h.mai.drew, h.oth.drew, h.ne⟩
theorem LineB.box' {w : World} {b mode s g p k : Nat} {V : Value} {T : TypeId} {X : List Value} (h : LineB w b V mode s g p k T X) : BoxV w b T (Value.int .i64 (mode : Int) :: V :: Value.int .i64 (s : Int) :: Value.int .i64 (g : Int) :: Value.int .i64 (p : Int) :: Value.int .i64 (k : Int) :: X) := h
theorem LineB.box {w : World} {b mode s g p k : Nat} {V : Value} {T : TypeId} {X : List Value} (h : BoxV w b T (Value.int .i64 (mode : Int) :: V :: Value.int .i64 (s : Int) :: Value.int .i64 (g : Int) :: Value.int .i64 (p : Int) :: Value.int .i64 (k : Int) :: X)) : LineB w b V mode s g p k T X := h
theorem add_fourthS (p : Addr) (m : Nat) : p.add (m + 3) = ⟨(p.add m).block, (p.add m).off + 3, none⟩ := by
  by_cases h : m = 0
  · subst h; simp [Addr.add]
  · simp [Addr.add, h, Nat.add_assoc]
theorem add_secondS (p : Addr) (m : Nat) : p.add (m + 1) = ⟨(p.add m).block, (p.add m).off + 1, none⟩ := by
  by_cases h : m = 0
  · subst h; simp [Addr.add]
  · simp [Addr.add, h, Nat.add_assoc]
theorem add_thirdS (p : Addr) (m : Nat) : p.add (m + 2) = ⟨(p.add m).block, (p.add m).off + 2, none⟩ := by
  by_cases h : m = 0
  · subst h; simp [Addr.add]
  · simp [Addr.add, h, Nat.add_assoc]
theorem ShR.wcell {w : World} {B sb gm go n c i : Nat} {ad : Addr} {CV : Value} {codes : List Nat} {ws : List StS} {main other : List Nat} {y : StS} (h : ShR w B sb gm go CV (.slice (some ad) n c) codes ws main other) (hn : n = ws.length) (hy : ws[i]? = some y) :
    w.cell? (ad.add (i * 4)) = some (.int .i64 y.kind) ∧ w.cell? ⟨(ad.add (i * 4)).block, (ad.add (i * 4)).off + 1, none⟩ = some (.int .i64 y.site) ∧ w.cell? ⟨(ad.add (i * 4)).block, (ad.add (i * 4)).off + 2, none⟩ = some (.int .i64 y.block) ∧ w.cell? ⟨(ad.add (i * 4)).block, (ad.add (i * 4)).off + 3, none⟩ = some (.int .u8 (y.val : Int)) := by
  subst hn
  obtain ⟨ad', xs, e, _, hx, _, hc⟩ := h.wri.reads.at_ (List.getElem?_eq_some_iff.1 hy).1
  injection e with e
  subst e
  rw [List.getElem?_map, hy] at hx
  injection hx with hx
  subst hx
  have d0 := hc 0 _ rfl
  have d1 := hc 1 _ rfl
  have d2 := hc 2 _ rfl
  have d3 := hc 3 _ rfl
  rw [Nat.add_zero] at d0
  rw [add_secondS] at d1
  rw [add_thirdS] at d2
  rw [add_fourthS] at d3
  exact ⟨d0, d1, d2, d3⟩
set_option maxRecDepth 100000 in
theorem ship_Clip (g : Nat) (w : World) : Calls Try.prog 38 #[.slice (some ⟨g, 0, none⟩) 8 8] w (fun e w' => e = .returned (.slice (some ⟨g, 0, none⟩) 8 8) ∧ w' = w) := by
  go_enter Try.func38, Try.ntmps38
  go_wp2
  go_ret
  exact ⟨rfl, rfl⟩
/-- a code was appended and laid into the answer's box -/
theorem ship_after {w W w' : World} {B sb gm go lb : Nat} {CV WV CV' : Value} {codes : List Nat} {ws : List StS} {main other : List Nat} {mode s g p k e : Nat} {xs : List Value} (hsr : ShR W B sb gm go CV WV codes ws main other) (hln : LineB W lb WV mode s g p k 83 []) (hres : BoxV W B 48 xs) (hsb : B < sb) (hbel : Below B w W)
    (ho : Own w' B 24 CV' (vn .i64 (codes ++ [e]))) (hb : Below B W w') (hg : W.grownBy w' CV.ownBlock) :
    ShR (w'.setCell ⟨sb, 0, none⟩ CV') B sb gm go CV' WV (codes ++ [e]) ws main other ∧ LineB (w'.setCell ⟨sb, 0, none⟩ CV') lb WV mode s g p k 83 [] ∧ BoxV (w'.setCell ⟨sb, 0, none⟩ CV') B 48 xs ∧ Below B w (w'.setCell ⟨sb, 0, none⟩ CV') ∧ w'.frozen? ⟨sb, 0, none⟩ = false ∧ w'.cell? ⟨sb, 0, none⟩ = some CV := by
  have hc := Ch.of_grown hg
  have h1 := hsr.box.ch hc (fun e => hsr.cod.notBox hsr.box (by decide) e)
  have h2 := BoxV.ch hln.box' hc (fun e => hsr.cod.notBox hln.box' (by decide) e)
  have h3 := hres.ch hc (fun e => hsr.cod.notBox hres (by decide) e)
  exact ⟨hsr.code ho hg, LineB.box (h2.setOther _ (ty_ne hln.box' hsr.box (by decide))), h3.setOther _ (by omega), (hbel.trans hb).setCell (by simp; omega) _, h1.free 0, h1.cell (j := 0) rfl⟩
theorem vn_snoc (xs : List Nat) (e : Nat) : vn .i64 xs ++ [.int .i64 (e : Int)] = vn .i64 (xs ++ [e]) := by simp [vn]
set_option maxRecDepth 100000 in
set_option maxHeartbeats 8000000 in
theorem ship_Play (mode : Nat) (A : Option Addr) (n c : Nat) (l : List StS) (w : World) (h : ReadsK w w.heap.size 4 A n (l.map stC)) (hl : ∀ m ∈ l, m.val < 256) (h1 : 1 ≤ mode) (h3 : mode ≤ 3) (hn : n ≤ 100) :
    Calls Try.prog 20 #[.int .i64 (mode : Int), .slice A n c] w (fun e w' => ∃ CV gm go, e = .returned (.tuple #[.agg #[CV, .int .i64 (toldS mode (playS mode l n) : Int), .int .i64 ((playS mode l n).g : Int), .int .i64 ((playS mode l n).p : Int), .slice (some ⟨gm, 0, none⟩) 8 8, .slice (some ⟨go, 0, none⟩) 8 8], .int .i64 0]) ∧
      Own w' w.heap.size 24 CV (vn .i64 (playS mode l n).codes) ∧ Own w' w.heap.size 5 (.slice (some ⟨gm, 0, none⟩) 8 8) (vn .u8 (playS mode l n).main) ∧ Own w' w.heap.size 5 (.slice (some ⟨go, 0, none⟩) 8 8) (vn .u8 (playS mode l n).other) ∧ Below w.heap.size w w') := by
  have HR := Lib.hid h
  have HL := Lib.hid hl
  have HN : Hid (l.length = n) := by have := h.len; rwa [List.length_map] at this
  have i64 : ¬ (100 : Int) < (n : Int) := by omega
  have i1 : ¬ (mode : Int) < 1 := by omega
  have i3 : ¬ (3 : Int) < (mode : Int) := by omega
  have hmk := make8
  clear h hl
  go_enter Try.func20, Try.ntmps20
  go_wp2
  go_cut [7] (fun sv wc => ∃ sb gm go, sv = .pointer (some ⟨sb, 0, none⟩) ∧ ShR wc w.heap.size sb gm go (.slice none 0 0) (.slice none 0 0) [] [] (List.replicate 8 0) (List.replicate 8 0) ∧ LineB wc (w.heap.size + 1) (.slice none 0 0) mode 0 0 0 0 83 [] ∧ BoxV wc w.heap.size 48 [.slice none 0 0, .int .i64 0, .int .i64 0, .int .i64 0, .slice none 0 0, .slice none 0 0] ∧ Below w.heap.size w wc ∧ w.heap.size < sb)
  case first =>
    go_region
    all_goals (try go_wp2_with fail)
    all_goals go_meet
    all_goals first
      | (refine ⟨_, w.heap.size + 2, w.heap.size + 3, rfl, ship_start ?_ ⟨rfl, rfl, rfl⟩ ?_ ?_ ?_ ?_ ?_ ?_ (by omega) (by omega) (by omega) (by omega)⟩; (simp only [hp_drew, hp_size]; omega); (intro q hq; simp only [hp_drew, hp_alloc, hp_size]; repeat rw [if_neg (by omega)]); all_goals (simp only [hp_drew, hp_alloc, hp_size]; repeat (first | rw [if_pos trivial] | rw [if_pos (by omega)] | rw [if_neg (by omega)])); all_goals (first | done | rfl))
      | (refine ⟨_, w.heap.size + 3, w.heap.size + 2, rfl, ship_start ?_ ⟨rfl, rfl, rfl⟩ ?_ ?_ ?_ ?_ ?_ ?_ (by omega) (by omega) (by omega) (by omega)⟩; (simp only [hp_drew, hp_size]; omega); (intro q hq; simp only [hp_drew, hp_alloc, hp_size]; repeat rw [if_neg (by omega)]); all_goals (simp only [hp_drew, hp_alloc, hp_size]; repeat (first | rw [if_pos trivial] | rw [if_pos (by omega)] | rw [if_neg (by omega)])); all_goals (first | done | rfl))
      | (refine ⟨_, w.heap.size + 2, w.heap.size + 4, rfl, ship_start ?_ ⟨rfl, rfl, rfl⟩ ?_ ?_ ?_ ?_ ?_ ?_ (by omega) (by omega) (by omega) (by omega)⟩; (simp only [hp_drew, hp_size]; omega); (intro q hq; simp only [hp_drew, hp_alloc, hp_size]; repeat rw [if_neg (by omega)]); all_goals (simp only [hp_drew, hp_alloc, hp_size]; repeat (first | rw [if_pos trivial] | rw [if_pos (by omega)] | rw [if_neg (by omega)])); all_goals (first | done | rfl))
      | (refine ⟨_, w.heap.size + 4, w.heap.size + 2, rfl, ship_start ?_ ⟨rfl, rfl, rfl⟩ ?_ ?_ ?_ ?_ ?_ ?_ (by omega) (by omega) (by omega) (by omega)⟩; (simp only [hp_drew, hp_size]; omega); (intro q hq; simp only [hp_drew, hp_alloc, hp_size]; repeat rw [if_neg (by omega)]); all_goals (simp only [hp_drew, hp_alloc, hp_size]; repeat (first | rw [if_pos trivial] | rw [if_pos (by omega)] | rw [if_neg (by omega)])); all_goals (first | done | rfl))
      | (refine ⟨_, w.heap.size + 3, w.heap.size + 4, rfl, ship_start ?_ ⟨rfl, rfl, rfl⟩ ?_ ?_ ?_ ?_ ?_ ?_ (by omega) (by omega) (by omega) (by omega)⟩; (simp only [hp_drew, hp_size]; omega); (intro q hq; simp only [hp_drew, hp_alloc, hp_size]; repeat rw [if_neg (by omega)]); all_goals (simp only [hp_drew, hp_alloc, hp_size]; repeat (first | rw [if_pos trivial] | rw [if_pos (by omega)] | rw [if_neg (by omega)])); all_goals (first | done | rfl))
      | (refine ⟨_, w.heap.size + 4, w.heap.size + 3, rfl, ship_start ?_ ⟨rfl, rfl, rfl⟩ ?_ ?_ ?_ ?_ ?_ ?_ (by omega) (by omega) (by omega) (by omega)⟩; (simp only [hp_drew, hp_size]; omega); (intro q hq; simp only [hp_drew, hp_alloc, hp_size]; repeat rw [if_neg (by omega)]); all_goals (simp only [hp_drew, hp_alloc, hp_size]; repeat (first | rw [if_pos trivial] | rw [if_pos (by omega)] | rw [if_neg (by omega)])); all_goals (first | done | rfl))
  case rest =>
    obtain ⟨sb, gm, go, rfl, hsr, hln, hres, hbel, hsb⟩ := hcut
    have HSB := Lib.hid hsb
    have HSR := Lib.hid hsr
    have HLN := Lib.hid hln
    have HRES := Lib.hid hres
    have HBEL := Lib.hid hbel
    clear hsr hln hres hbel hsb hmk
    go_wp2
    go_loopw [33] (fun iv wr => ∃ (k c0 c1 : Nat) (CA WA : Option Addr), k ≤ n ∧ iv = .int .i64 (k : Int) ∧ ShR wr w.heap.size sb gm go (.slice CA k c0) (.slice WA (playS mode l k).ws.length c1) (playS mode l k).codes (playS mode l k).ws (playS mode l k).main (playS mode l k).other ∧ LineB wr (w.heap.size + 1) (.slice WA (playS mode l k).ws.length c1) mode (playS mode l k).s (playS mode l k).g (playS mode l k).p (playS mode l k).k 83 [] ∧ BoxV wr w.heap.size 48 [.slice none 0 0, .int .i64 0, .int .i64 0, .int .i64 0, .slice none 0 0, .slice none 0 0] ∧ w.heap.size < sb ∧ Below w.heap.size w wr) (fun iv _ => n - (intOf iv).toNat)
    case atStart => exact ⟨0, 0, 0, none, none, Nat.zero_le _, rfl, HSR.out, HLN.out, HRES.out, HSB.out, HBEL.out⟩
    case round =>
      obtain ⟨k, c0, c1, CA, WA, hk, rfl, hsr, hln, hres, hsb, hbel⟩ := hrel
      obtain ⟨wo, rfl⟩ : ∃ x, x = wr := ⟨_, rfl⟩
      clear HSR HLN HRES HBEL HSB
      by_cases hlt : k < n
      · obtain ⟨ad, xs, rfl, hadb, hx, _, hc⟩ := (HR.out.below hbel).at_ hlt
        rw [List.getElem?_map] at hx
        obtain ⟨⟨kind, site, block, v⟩, hm, rfl⟩ := Option.map_eq_some_iff.1 hx
        have hv256 : v < 256 := HL.out _ (List.mem_of_getElem? hm)
        have d0 := hc 0 _ rfl
        have d1 := hc 1 _ rfl
        have d2 := hc 2 _ rfl
        have d3 := hc 3 _ rfl
        rw [Nat.add_zero] at d0
        rw [add_secondS] at d1
        rw [add_thirdS] at d2
        rw [add_fourthS] at d3
        have hok := ShOk.play HL.out mode k (by have := HN.out; omega)
        have hnx := playS_next (mode := mode) hm
        generalize playS mode l k = t at *
        have i0 : (0 : Int) ≤ (k : Int) := by omega
        have i1 : (k : Int) < (n : Int) := by omega
        clear hx hc hm
        have OX : ∃ o, o = Obj.cells #[.int .i64 kind, .int .i64 site, .int .i64 block, .int .u8 (v : Int)] 85 := ⟨_, rfl⟩
        have HBX : Hid (BoxV (wo.alloc (.cells #[.int .i64 kind, .int .i64 site, .int .i64 block, .int .u8 (v : Int)] 85)) wo.heap.size 85 [.int .i64 kind, .int .i64 site, .int .i64 block, .int .u8 (v : Int)]) := BoxV.new wo _ _
        have HSR1 := Lib.hid (hsr.below ((Below.refl _ _).alloc (Nat.le_refl _) (.cells #[.int .i64 kind, .int .i64 site, .int .i64 block, .int .u8 (v : Int)] 85)))
        have HLN1 := Lib.hid (LineB.box (hln.box'.alloc (.cells #[.int .i64 kind, .int .i64 site, .int .i64 block, .int .u8 (v : Int)] 85)))
        have HRES1 := Lib.hid (hres.alloc (.cells #[.int .i64 kind, .int .i64 site, .int .i64 block, .int .u8 (v : Int)] 85))
        have HB1 := Lib.hid (hbel.alloc (by have := hbel.size; omega) (.cells #[.int .i64 kind, .int .i64 site, .int .i64 block, .int .u8 (v : Int)] 85))
        have HS : Hid (w.heap.size + 1 < wo.heap.size) := hln.lt
        clear hsr hln hres hbel OX
        by_cases h1 : kind = 1
        · subst h1
          have HSB := Lib.hid hsb
          have HHS : Hid (w.heap.size < wo.heap.size) := by have := HS.out; unfold Hid; omega
          clear hsb
          by_cases hb : 0 ≤ block ∧ block < 8
          · obtain ⟨b, rfl⟩ : ∃ b : Nat, block = (b : Int) := ⟨block.toNat, by omega⟩
            rw [stepS, if_pos rfl, if_pos hb, show ((b : Int)).toNat = b by omega] at hnx
            have hb8 : b < 8 := by omega
            have hm8 := hok.ml
            have b0 : (0 : Int) ≤ (b : Int) := by omega
            have b1 : (b : Int) < 8 := by omega
            have HNX := Lib.hid hnx
            have x0 := HBX.out.cell (j := 0) rfl; have x2 := HBX.out.cell (j := 2) rfl; have x3 := HBX.out.cell (j := 3) rfl
            have s4 := HSR1.out.box.cell (j := 4) rfl
            have m0 := HSR1.out.mai.cellAt (j := b) hb8
            have m1 := HSR1.out.mai.frozenAt b
            obtain ⟨mb, hmb⟩ : ∃ mb : Nat, t.main[b]? = some mb := ⟨_, List.getElem?_eq_getElem (by omega)⟩
            rw [show (vn .u8 t.main)[b]? = some (.int .u8 (mb : Int)) by simp [vn, hmb]] at m0
            clear hmb hnx hm8
            rw [add_row] at m0 m1
            obtain ⟨cg, hcg⟩ := HSR1.out.gmTy
            have HSR3 := Lib.hid (HSR1.out.putMain b v)
            have HLN3 := Lib.hid (LineB.box (HLN1.out.box'.setOther (c := gm) (j := b) (.int .u8 (v : Int)) (Ne.symm (ty_ne hcg HLN1.out (by decide)))))
            have HRES3 := Lib.hid (HRES1.out.setOther (c := gm) (j := b) (.int .u8 (v : Int)) (Ne.symm (ty_ne hcg HRES1.out (by decide))))
            have HBX3 := Lib.hid (HBX.out.setOther (c := gm) (j := b) (.int .u8 (v : Int)) (Ne.symm (ty_ne hcg HBX.out (by decide))))
            have HB3 := Lib.hid (HB1.out.setCell (p := ⟨gm, b, none⟩) (show w.heap.size ≤ gm from (HSR1.out.mai.lt gm rfl).1) (.int .u8 (v : Int)))
            clear hcg HSR1 HLN1 HRES1 HBX HB1
            go_wp2
            clear m0 m1 x0 x2 x3 s4
            obtain ⟨W, hW⟩ : ∃ x, x = ((wo.alloc (.cells #[.int .i64 1, .int .i64 site, .int .i64 (b : Int), .int .u8 (v : Int)] 85)).setCell ⟨gm, b, none⟩ (.int .u8 (v : Int))) := ⟨_, rfl⟩
            have hWs : W.heap.size = wo.heap.size + 1 := by rw [hW]; simp
            rw [← hW]
            rw [← hW] at HSR3 HLN3 HRES3 HBX3 HB3
            have HWS := Lib.hid hWs
            clear hW hWs
            have y0 := HBX3.out.cell (j := 0) rfl; have y1 := HBX3.out.cell (j := 1) rfl; have y2 := HBX3.out.cell (j := 2) rfl; have y3 := HBX3.out.cell (j := 3) rfl
            have l1 := HLN3.out.c1
            have hbA := HBX3.out.alloc (.cells #[.int .i64 1, .int .i64 site, .int .i64 (b : Int), .int .u8 (v : Int)] 85)
            have z0 := hbA.cell (j := 0) rfl; have z1 := hbA.cell (j := 1) rfl; have z2 := hbA.cell (j := 2) rfl; have z3 := hbA.cell (j := 3) rfl
            have hlA := HLN3.out.box'.alloc (.cells #[.int .i64 1, .int .i64 site, .int .i64 (b : Int), .int .u8 (v : Int)] 85)
            have l2 := LineB.c1 (LineB.box hlA)
            have HLA := Lib.hid hlA
            have HQ := Lib.hid (HSR3.out.wri.alloc (.cells #[.int .i64 1, .int .i64 site, .int .i64 (b : Int), .int .u8 (v : Int)] 85)).drew
            have HRA := Lib.hid (HSR3.out.below ((Below.refl _ _).alloc (Nat.le_refl _) (.cells #[.int .i64 1, .int .i64 site, .int .i64 (b : Int), .int .u8 (v : Int)] 85)))
            have HNEW : Hid (∀ j u, [Value.int .i64 1, .int .i64 site, .int .i64 (b : Int), .int .u8 (v : Int)][j]? = some u → (W.alloc (.cells #[.int .i64 1, .int .i64 site, .int .i64 (b : Int), .int .u8 (v : Int)] 85)).drew.cell? ((⟨W.heap.size, 0, none⟩ : Addr).add j) = some u) := fun j u hu => by
              rw [add_row]; exact (BoxV.new W [Value.int .i64 1, .int .i64 site, .int .i64 (b : Int), .int .u8 (v : Int)] 85).cell hu
            have HYS : Hid (t.ws.map stC ++ [[Value.int .i64 1, .int .i64 site, .int .i64 (b : Int), .int .u8 (v : Int)]] = (t.ws ++ [(⟨1, site, b, v⟩ : StS)]).map stC) := by unfold Hid; simp [stC]
            clear hbA hlA
            go_region_law (refine step_appQs el_stepK rfl (.tmp 59) (.tmp 61) rfl rfl HQ.out ⟨W.heap.size, 0, none⟩ 1 [Value.int .i64 1, .int .i64 site, .int .i64 (b : Int), .int .u8 (v : Int)] ((t.ws ++ [(⟨1, site, b, v⟩ : StS)]).map stC) (t.ws.length + 1) HYS (by simp [Hid]) rfl rfl HNEW.out (by intro u hu; simp only [List.mem_cons, List.not_mem_nil, or_false] at hu; rcases hu with rfl | rfl | rfl | rfl <;> rfl) (by have := hok.le4; unfold maxLen; omega) (by have := hok.le4; omega) (by have := HB3.out.size; simp; omega) ?_; intro A3 k3 w3 ho3 hg3 hat3; have hb3 : BoxV w3 (w.heap.size + 1) _ _ := HLA.out.drew.ch (Ch.of_grown hg3) (fun e => HQ.out.notBox HLA.out.drew (by decide) e); have e3 := hb3.cell (j := 1) rfl; have f3 := hb3.free 1)
            all_goals
              have HRD : ShR (W.alloc (.cells #[.int .i64 1, .int .i64 site, .int .i64 (b : Int), .int .u8 (v : Int)] 85)).drew w.heap.size sb gm go _ _ _ _ _ _ := HRA.out.drew
              have HSR4 : Hid (ShR (w3.setCell ⟨w.heap.size + 1, 1, none⟩ (.slice A3 (t.ws.length + 1) k3)) w.heap.size sb gm go (.slice CA k c0) (.slice A3 (t.ws ++ [(⟨1, site, b, v⟩ : StS)]).length k3) t.codes (t.ws ++ [(⟨1, site, b, v⟩ : StS)]) (t.main.set b v) t.other) := by
                rw [List.length_append]; exact HRD.push (x := (⟨1, site, b, v⟩ : StS)) ho3 hg3 hb3 (by decide)
              have HLN4 : Hid (LineB (w3.setCell ⟨w.heap.size + 1, 1, none⟩ (.slice A3 (t.ws.length + 1) k3)) (w.heap.size + 1) (.slice A3 (t.ws ++ [(⟨1, site, b, v⟩ : StS)]).length k3) mode t.s t.g t.p t.k 83 []) := by
                rw [List.length_append]; exact LineB.box (hb3.set 1 (.slice A3 (t.ws.length + 1) k3))
              have HRES4 := Lib.hid (((HRES3.out.alloc (.cells #[.int .i64 1, .int .i64 site, .int .i64 (b : Int), .int .u8 (v : Int)] 85)).drew.ch (Ch.of_grown hg3) (fun e => HQ.out.notBox ((HRES3.out.alloc (.cells #[.int .i64 1, .int .i64 site, .int .i64 (b : Int), .int .u8 (v : Int)] 85)).drew) (by decide) e)).setOther (c := w.heap.size + 1) (j := 1) (.slice A3 (t.ws.length + 1) k3) (by omega))
              have HB4 := Lib.hid ((((HB3.out.alloc (by have := HB3.out.size; omega) (.cells #[.int .i64 1, .int .i64 site, .int .i64 (b : Int), .int .u8 (v : Int)] 85)).drew).grown hg3 (by have := HB3.out.size; simp; omega) (fun q hq => (HQ.out.lt q hq).1)).setCell (p := ⟨w.heap.size + 1, 1, none⟩) (by simp) (.slice A3 (t.ws.length + 1) k3))
              have s0 := HSR4.out.box.cell (j := 0) rfl
              clear HRD ho3 hg3 hat3 hb3 e3 f3 HRA HQ HLA HNEW HYS l1 l2 y0 y1 y2 y3 z0 z1 z2 z3 HSR3 HLN3 HRES3 HBX3 HB3
              go_wp2_with (refine app1z el_errno rfl (.tmp 66) (.tmp 68) rfl rfl HSR4.out.cod (.int .i64 0) 24 (vn .i64 (t.codes ++ [0])) (k + 1) (vn_snoc _ 0) (by simp [vn, hok.cl, Hid]) _ rfl (by simp) rfl (by unfold maxLen; omega) (by omega) (by have := HB4.out.size; omega) ?_; intro A5 c5 w5 ho5 hbe5 hg5 hat5
                           obtain ⟨e1, e2, e3, e4, e5, e6⟩ := ship_after HSR4.out HLN4.out HRES4.out HSB.out HB4.out ho5 hbe5 hg5
                           have E1 := Lib.hid e1; have E2 := Lib.hid e2; have E3 := Lib.hid e3; have E4 := Lib.hid e4
                           clear ho5 hbe5 hg5 hat5 e1 e2 e3 e4 HSR4 HLN4 HRES4 HB4 s0)
              go_roundw
              case rel => exact ⟨k + 1, c5, _, A5, _, by omega, by go_num, by rw [HNX.out]; exact E1.out, by rw [HNX.out]; exact E2.out, E3.out, HSB.out, E4.out⟩
              case measure => simp [intOf] <;> omega
          · rw [stepS, if_pos rfl, if_neg hb] at hnx
            have HNX := Lib.hid hnx
            have x0 := HBX.out.cell (j := 0) rfl; have x2 := HBX.out.cell (j := 2) rfl
            have s0 := HSR1.out.box.cell (j := 0) rfl
            have HSR4 := HSR1; have HLN4 := HLN1; have HRES4 := HRES1; have HB4 := HB1
            clear hnx HSR1 HLN1 HRES1 HB1 HBX
            by_cases hb0 : 0 ≤ block
            · have hb1 : ¬ block < 8 := fun e => hb ⟨hb0, e⟩
              clear hb
              go_wp2_with (refine app1z el_errno rfl (.tmp 66) (.tmp 68) rfl rfl HSR4.out.cod (.int .i64 2) 24 (vn .i64 (t.codes ++ [2])) (k + 1) (vn_snoc _ 2) (by simp [vn, hok.cl, Hid]) _ rfl (by simp) rfl (by unfold maxLen; omega) (by omega) (by have := HB4.out.size; omega) ?_; intro A5 c5 w5 ho5 hbe5 hg5 hat5
                           obtain ⟨e1, e2, e3, e4, e5, e6⟩ := ship_after HSR4.out HLN4.out HRES4.out HSB.out HB4.out ho5 hbe5 hg5
                           have E1 := Lib.hid e1; have E2 := Lib.hid e2; have E3 := Lib.hid e3; have E4 := Lib.hid e4
                           clear ho5 hbe5 hg5 hat5 e1 e2 e3 e4 HSR4 HLN4 HRES4 HB4 s0)
              go_roundw
              case rel => exact ⟨k + 1, c5, _, A5, _, by omega, by go_num, by rw [HNX.out]; exact E1.out, by rw [HNX.out]; exact E2.out, E3.out, HSB.out, E4.out⟩
              case measure => simp [intOf] <;> omega
            · clear hb
              go_wp2_with (refine app1z el_errno rfl (.tmp 66) (.tmp 68) rfl rfl HSR4.out.cod (.int .i64 2) 24 (vn .i64 (t.codes ++ [2])) (k + 1) (vn_snoc _ 2) (by simp [vn, hok.cl, Hid]) _ rfl (by simp) rfl (by unfold maxLen; omega) (by omega) (by have := HB4.out.size; omega) ?_; intro A5 c5 w5 ho5 hbe5 hg5 hat5
                           obtain ⟨e1, e2, e3, e4, e5, e6⟩ := ship_after HSR4.out HLN4.out HRES4.out HSB.out HB4.out ho5 hbe5 hg5
                           have E1 := Lib.hid e1; have E2 := Lib.hid e2; have E3 := Lib.hid e3; have E4 := Lib.hid e4
                           clear ho5 hbe5 hg5 hat5 e1 e2 e3 e4 HSR4 HLN4 HRES4 HB4 s0)
              go_roundw
              case rel => exact ⟨k + 1, c5, _, A5, _, by omega, by go_num, by rw [HNX.out]; exact E1.out, by rw [HNX.out]; exact E2.out, E3.out, HSB.out, E4.out⟩
              case measure => simp [intOf] <;> omega
        · have t1 : (kind == 1) = false := by simpa using h1
          rw [stepS, if_neg h1] at hnx
          have cd := ship_Do (w.heap.size + 1) t.ws.length c1 mode t.s t.g t.p t.k WA _ HLN1.out (by have := hok.le4; omega) (by have := hok.le3; have := hok.le4; omega) (by have := hok.le2; have := hok.le3; have := hok.le4; omega) (by have := hok.le1; have := hok.le2; have := hok.le3; have := hok.le4; omega) kind
          have hOk2 := ShOk.step hok mode ⟨kind, site, block, v⟩ hv256
          rw [stepS, if_neg h1] at hOk2
          generalize hr : doS t.ws.length mode t.s t.g t.p t.k kind = r at *
          have HNX := Lib.hid hnx
          have HR' := Lib.hid hr
          clear hnx hr
          by_cases h4 : kind = 4 ∧ r.e = 0
          · obtain ⟨h41, h42⟩ := h4
            have hq : t.p < t.g ∧ r = ⟨0, true, t.s, t.g, t.p + 1, t.k⟩ := by
              have e := HR'.out
              rw [h41] at e
              unfold doS at e
              rw [if_neg (by decide), if_neg (by decide), if_pos rfl] at e
              by_cases h6 : t.g ≤ t.p
              · rw [if_pos h6] at e; rw [← e] at h42; cases h42
              · rw [if_neg h6] at e; exact ⟨by omega, e.symm⟩
            obtain ⟨hpg, hrq⟩ := hq
            have hpw : t.p < t.ws.length := by have := hok.le2; have := hok.le3; omega
            obtain ⟨⟨yk, ysi, yb, yv⟩, hy⟩ : ∃ y, t.ws[t.p]? = some y := ⟨_, List.getElem?_eq_getElem hpw⟩
            obtain ⟨hyb0, hyb8, hyv⟩ := hok.wb _ (List.mem_of_getElem? hy)
            obtain ⟨bb, hbb⟩ : ∃ bb : Nat, yb = (bb : Int) := ⟨yb.toNat, by simp only at hyb0; omega⟩
            subst hbb
            simp only at hyb0 hyb8 hyv
            obtain ⟨ad2, ys2, rfl, _, _, _, _⟩ := HSR1.out.wri.reads.at_ hpw
            have hoth : othS t.ws t.other kind r = t.other.set bb yv := by
              unfold othS; rw [if_pos ⟨h41, h42⟩, hrq]; simp only [Nat.add_sub_cancel]; rw [hy]; simp
            rw [hoth] at HNX
            have HSB := Lib.hid hsb
            have HHS : Hid (w.heap.size < wo.heap.size) := by have := HS.out; unfold Hid; omega
            have t4 : (kind == 4) = true := by simpa using h41
            have te : ((r.e : Int) == 0) = true := by simp; omega
            have hrp : r.p = t.p + 1 := by rw [hrq]
            have hp100 : t.p ≤ 100 := by have := hok.le4; omega
            have p4 : (0 : Int) ≤ (t.p : Int) := by omega
            have p5 : (t.p : Int) < (t.ws.length : Int) := by omega
            have p1 : (r.p : Int) - 1 = (t.p : Int) := by omega
            have p3 : IntKind.i64.wrap (t.p : Int) = (t.p : Int) := by rw [IntKind.wrap_i64]; omega
            have p6 : IntKind.i64.wrap ((r.p : Int) - 1) = (t.p : Int) := by rw [p1]; exact p3
            have p7 : wrap64 (t.p : Int) = (t.p : Int) := by unfold wrap64; omega
            have p2 : wrap64 ((r.p : Int) - 1) = (t.p : Int) := by rw [p1]; exact p7
            have HY := Lib.hid hy
            obtain ⟨ob, hob⟩ : ∃ ob : Nat, t.other[bb]? = some ob := ⟨_, List.getElem?_eq_getElem (by have := hok.ol; omega)⟩
            have HOB := Lib.hid hob
            clear hsb h41 h42 hrq hrp hoth hy hob
            go_wp2_with (go_at_call 36; refine cd.mono ?_; clear cd; rintro e w1 ⟨rfl, hl1, hg1⟩
                         have hbx1 := HBX.out.ch (Ch.of_grown hg1) (fun e => by injection e with e; have := HS.out; omega)
                         have hsr2 := HSR1.out.chTy HLN1.out.box' (by decide) ((Ch.of_grown hg1).imp (fun b _ e => by injection e with e; exact e.symm))
                         have hres2 := HRES1.out.ch (Ch.of_grown hg1) (fun e => by injection e with e; omega)
                         have HB2 := Lib.hid (HB1.out.trans ((Ch.of_grown hg1).below (by have := HHS.out; simp; omega) (fun b _ e => by injection e with e; omega)))
                         have x0 := hbx1.cell (j := 0) rfl
                         have l1 := hl1.c1
                         have l4 := hl1.c4
                         obtain ⟨c40, c41, c42, c43⟩ := hsr2.wcell rfl HY.out
                         have hsrA := hsr2.below ((Below.refl _ _).alloc (Nat.le_refl _) (.cells #[.int .i64 0, .int .i64 0, .int .i64 0, .int .u8 0] 85))
                         have hlnA := LineB.box (hl1.box'.alloc (.cells #[.int .i64 0, .int .i64 0, .int .i64 0, .int .u8 0] 85))
                         have l1A := hlnA.c1
                         have l4A := hlnA.c4
                         obtain ⟨cA0, cA1, cA2, cA3⟩ := hsrA.wcell rfl HY.out
                         simp only at c40 c41 c42 c43 cA0 cA1 cA2 cA3
                         clear hsrA hlnA
                         have HSR2 := Lib.hid hsr2; have HLN2 := Lib.hid hl1; have HRES2 := Lib.hid hres2
                         clear hl1 hg1 hbx1 hsr2 hres2 HB1 HSR1 HLN1 HRES1 HBX)
            go_region
            clear p1 p2 p3 p4 p5 p6 p7 l1 l4 l1A l4A c40 c41 c42 c43 cA0 cA1 cA2 cA3 x0
            have HSR3 : Hid (ShR (w1.alloc (.cells #[.int .i64 yk, .int .i64 ysi, .int .i64 (bb : Int), .int .u8 (yv : Int)] 85)).drew w.heap.size sb gm go (.slice CA k c0) (.slice (some ad2) t.ws.length c1) t.codes t.ws t.main t.other) := (HSR2.out.below ((Below.refl _ _).alloc (Nat.le_refl _) (.cells #[.int .i64 yk, .int .i64 ysi, .int .i64 (bb : Int), .int .u8 (yv : Int)] 85))).drew
            have HLN3 := Lib.hid (LineB.box (HLN2.out.box'.alloc (.cells #[.int .i64 yk, .int .i64 ysi, .int .i64 (bb : Int), .int .u8 (yv : Int)] 85)).drew)
            have HRES3 := Lib.hid (HRES2.out.alloc (.cells #[.int .i64 yk, .int .i64 ysi, .int .i64 (bb : Int), .int .u8 (yv : Int)] 85)).drew
            have HBY3 : Hid (BoxV (w1.alloc (.cells #[.int .i64 yk, .int .i64 ysi, .int .i64 (bb : Int), .int .u8 (yv : Int)] 85)).drew w1.heap.size 85 [.int .i64 yk, .int .i64 ysi, .int .i64 (bb : Int), .int .u8 (yv : Int)]) := BoxV.new w1 _ _
            have HB3 := Lib.hid (HB2.out.alloc (by have := HB2.out.size; omega) (.cells #[.int .i64 yk, .int .i64 ysi, .int .i64 (bb : Int), .int .u8 (yv : Int)] 85)).drew
            obtain ⟨W, hW⟩ : ∃ x, x = (w1.alloc (.cells #[.int .i64 yk, .int .i64 ysi, .int .i64 (bb : Int), .int .u8 (yv : Int)] 85)).drew := ⟨_, rfl⟩
            rw [← hW]
            rw [← hW] at HSR3 HLN3 HRES3 HBY3 HB3
            clear hW HSR2 HLN2 HRES2 HB2
            have x2 := HBY3.out.cell (j := 2) rfl; have x3 := HBY3.out.cell (j := 3) rfl
            have s5 := HSR3.out.box.cell (j := 5) rfl
            have o0 := HSR3.out.oth.cellAt (j := bb) (by omega)
            have o1 := HSR3.out.oth.frozenAt bb
            rw [show (vn .u8 t.other)[bb]? = some (.int .u8 (ob : Int)) by simp [vn, HOB.out]] at o0
            rw [add_row] at o0 o1
            obtain ⟨cg, hcg⟩ := HSR3.out.goTy
            have hsr4 := HSR3.out.putOther bb yv
            have HSR4 := Lib.hid hsr4
            have HLN4 := Lib.hid (LineB.box (HLN3.out.box'.setOther (c := go) (j := bb) (.int .u8 (yv : Int)) (Ne.symm (ty_ne hcg HLN3.out (by decide)))))
            have HRES4 := Lib.hid (HRES3.out.setOther (c := go) (j := bb) (.int .u8 (yv : Int)) (Ne.symm (ty_ne hcg HRES3.out (by decide))))
            have HB4 := Lib.hid (HB3.out.setCell (p := ⟨go, bb, none⟩) (show w.heap.size ≤ go from (HSR3.out.oth.lt go rfl).1) (.int .u8 (yv : Int)))
            have s0 := hsr4.box.cell (j := 0) rfl
            clear hcg hsr4 HSR3 HLN3 HRES3 HB3 HBY3
            go_wp2_with (refine app1z el_errno rfl (.tmp 104) (.tmp 106) rfl rfl HSR4.out.cod (.int .i64 (r.e : Int)) 24 (vn .i64 (t.codes ++ [r.e])) (k + 1) (vn_snoc _ _) (by simp [vn, hok.cl, Hid]) _ rfl (by simp) rfl (by unfold maxLen; omega) (by omega) (by have := HB4.out.size; omega) ?_; intro A5 c5 w5 ho5 hbe5 hg5 hat5
                         obtain ⟨e1, e2, e3, e4, e5, e6⟩ := ship_after HSR4.out HLN4.out HRES4.out HSB.out HB4.out ho5 hbe5 hg5
                         have E1 := Lib.hid e1; have E2 := Lib.hid e2; have E3 := Lib.hid e3; have E4 := Lib.hid e4
                         clear ho5 hbe5 hg5 hat5 e1 e2 e3 e4 HSR4 HLN4 HRES4 HB4 s0)
            go_roundw
            case rel => exact ⟨k + 1, c5, _, A5, _, by omega, by go_num, by rw [HNX.out]; exact E1.out, by rw [HNX.out]; exact E2.out, E3.out, HSB.out, E4.out⟩
            case measure => simp [intOf] <;> omega
          · have HSB := Lib.hid hsb
            have HHS : Hid (w.heap.size < wo.heap.size) := by have := HS.out; unfold Hid; omega
            clear hsb
            by_cases h5 : kind = 4
            · have hne : r.e ≠ 0 := fun e => h4 ⟨h5, e⟩
              have te : ((r.e : Int) == 0) = false := by simp; omega
              have t4 : (kind == 4) = true := by simpa using h5
              clear h5
              go_wp2_with (first
                | (go_at_call 36; refine cd.mono ?_; clear cd; rintro e w1 ⟨rfl, hl1, hg1⟩
                   have hbx1 := HBX.out.ch (Ch.of_grown hg1) (fun e => by injection e with e; have := HS.out; omega)
                   have hsr2 := HSR1.out.chTy HLN1.out.box' (by decide) ((Ch.of_grown hg1).imp (fun b _ e => by injection e with e; exact e.symm))
                   have hres2 := HRES1.out.ch (Ch.of_grown hg1) (fun e => by injection e with e; omega)
                   have HB2 := Lib.hid (HB1.out.trans ((Ch.of_grown hg1).below (by have := HHS.out; simp; omega) (fun b _ e => by injection e with e; omega)))
                   have x0 := hbx1.cell (j := 0) rfl; have s0 := hsr2.box.cell (j := 0) rfl
                   have HSR2 := Lib.hid hsr2; have HLN2 := Lib.hid hl1; have HRES2 := Lib.hid hres2
                   clear hl1 hg1 hbx1 hsr2 hres2 HB1 HSR1 HLN1 HRES1 HBX)
                | (refine app1s el_errno rfl (.tmp 104) (.tmp 106) rfl rfl HSR2.out.cod (.int .i64 (r.e : Int)) 24 (vn .i64 (t.codes ++ [r.e])) (k + 1) (vn_snoc _ _) (by simp [vn, hok.cl, Hid]) rfl rfl (by unfold maxLen; omega) (by omega) (by have := HB2.out.size; omega) ?_; intro A3 c3 w3 ho3 hbe3 hg3 hat3
                   obtain ⟨e1, e2, e3, e4, e5, e6⟩ := ship_after HSR2.out HLN2.out HRES2.out HSB.out HB2.out ho3 hbe3 hg3
                   have E1 := Lib.hid e1; have E2 := Lib.hid e2; have E3 := Lib.hid e3; have E4 := Lib.hid e4
                   clear ho3 hbe3 hg3 hat3 e1 e2 e3 e4 HSR2 HLN2 HRES2 HB2 s0 x0))
              go_roundw
              have hoth : othS t.ws t.other kind r = t.other := by unfold othS; rw [if_neg h4]
              rw [hoth] at HNX
              case rel => exact ⟨k + 1, c3, c1, A3, WA, by omega, by go_num, by rw [HNX.out]; exact E1.out, by rw [HNX.out]; exact E2.out, E3.out, HSB.out, E4.out⟩
              case measure => simp [intOf] <;> omega
            · have t4 : (kind == 4) = false := by simpa using h5
              go_wp2_with (first
                | (go_at_call 36; refine cd.mono ?_; clear cd; rintro e w1 ⟨rfl, hl1, hg1⟩
                   have hbx1 := HBX.out.ch (Ch.of_grown hg1) (fun e => by injection e with e; have := HS.out; omega)
                   have hsr2 := HSR1.out.chTy HLN1.out.box' (by decide) ((Ch.of_grown hg1).imp (fun b _ e => by injection e with e; exact e.symm))
                   have hres2 := HRES1.out.ch (Ch.of_grown hg1) (fun e => by injection e with e; omega)
                   have HB2 := Lib.hid (HB1.out.trans ((Ch.of_grown hg1).below (by have := HHS.out; simp; omega) (fun b _ e => by injection e with e; omega)))
                   have x0 := hbx1.cell (j := 0) rfl; have s0 := hsr2.box.cell (j := 0) rfl
                   have HSR2 := Lib.hid hsr2; have HLN2 := Lib.hid hl1; have HRES2 := Lib.hid hres2
                   clear hl1 hg1 hbx1 hsr2 hres2 HB1 HSR1 HLN1 HRES1 HBX)
                | (refine app1s el_errno rfl (.tmp 104) (.tmp 106) rfl rfl HSR2.out.cod (.int .i64 (r.e : Int)) 24 (vn .i64 (t.codes ++ [r.e])) (k + 1) (vn_snoc _ _) (by simp [vn, hok.cl, Hid]) rfl rfl (by unfold maxLen; omega) (by omega) (by have := HB2.out.size; omega) ?_; intro A3 c3 w3 ho3 hbe3 hg3 hat3
                   obtain ⟨e1, e2, e3, e4, e5, e6⟩ := ship_after HSR2.out HLN2.out HRES2.out HSB.out HB2.out ho3 hbe3 hg3
                   have E1 := Lib.hid e1; have E2 := Lib.hid e2; have E3 := Lib.hid e3; have E4 := Lib.hid e4
                   clear ho3 hbe3 hg3 hat3 e1 e2 e3 e4 HSR2 HLN2 HRES2 HB2 s0 x0))
              go_roundw
              have hoth : othS t.ws t.other kind r = t.other := by unfold othS; rw [if_neg h4]
              rw [hoth] at HNX
              case rel => exact ⟨k + 1, c3, c1, A3, WA, by omega, by go_num, by rw [HNX.out]; exact E1.out, by rw [HNX.out]; exact E2.out, E3.out, HSB.out, E4.out⟩
              case measure => simp [intOf] <;> omega
      · obtain rfl : n = k := by omega
        have hok := ShOk.play HL.out mode n (by have := HN.out; omega)
        obtain ⟨t, ht⟩ : ∃ t, playS mode l n = t := ⟨_, rfl⟩
        rw [ht] at hsr hln hok
        have HT := Lib.hid ht
        clear ht
        have l1 := hln.c1
        have l3 := hln.c3
        have l4 := hln.c4
        have HLN := Lib.hid hln
        have HSR := Lib.hid hsr
        have HRES := Lib.hid hres
        have HB := Lib.hid hbel
        clear hlt hk
        go_wp2_with fail
        have b1 := hsr.box.cell (j := 1) rfl
        have b2 := hsr.box.cell (j := 2) rfl
        have b3 := hsr.box.cell (j := 3) rfl
        have f1 := hsr.box.free 1
        have f2 := hsr.box.free 2
        have f3 := hsr.box.free 3
        have hne : w.heap.size + 1 ≠ sb := ty_ne hln hsr.box (by decide)
        have hne2 : sb ≠ w.heap.size + 1 := Ne.symm hne
        have ct := ship_Told (w.heap.size + 1) t.ws.length c1 mode t.s t.g t.p t.k WA wo.drew hln.drew
        obtain ⟨TV, hTV⟩ : ∃ x : Nat, toldS mode t = x := ⟨_, rfl⟩
        rw [show (if mode = 1 then t.ws.length else t.k) = TV from hTV] at ct
        have HTV := Lib.hid hTV
        clear hTV
        clear hsr hln hres hbel
        go_cut [120] (fun sv wc => sv = .pointer (some ⟨sb, 1, none⟩) ∧ wc = (((wo.setCell ⟨sb, 1, none⟩ (.int .i64 (TV : Int))).setCell ⟨sb, 2, none⟩ (.int .i64 (t.g : Int))).setCell ⟨sb, 3, none⟩ (.int .i64 (t.p : Int))).drew)
        case first =>
          go_region_with (go_at_call 37; refine ct.mono ?_; rintro e w2 ⟨rfl, rfl⟩)
          all_goals (try go_wp2_with fail)
          all_goals go_meet
          all_goals exact ⟨rfl, rfl⟩
        case rest =>
          obtain ⟨rfl, rfl⟩ := hcut
          clear ct b1 b2 b3 f1 f2 f3
          have HBX : Hid (BoxV (((wo.setCell ⟨sb, 1, none⟩ (.int .i64 (TV : Int))).setCell ⟨sb, 2, none⟩ (.int .i64 (t.g : Int))).setCell ⟨sb, 3, none⟩ (.int .i64 (t.p : Int))).drew sb 48 [.slice CA n c0, .int .i64 (TV : Int), .int .i64 (t.g : Int), .int .i64 (t.p : Int), .slice (some ⟨gm, 0, none⟩) 8 8, .slice (some ⟨go, 0, none⟩) 8 8]) := (((HSR.out.box.set 1 _).set 2 _).set 3 _).drew
          have hnc := HSR.out.cod.notBox HSR.out.box (by decide)
          obtain ⟨cg, hcg⟩ := HSR.out.gmTy
          obtain ⟨co, hco⟩ := HSR.out.goTy
          have hng : (Value.slice (some ⟨gm, 0, none⟩) 8 8).ownBlock ≠ some sb := fun e => by injection e with e; exact ty_ne hcg HSR.out.box (by decide) e
          have hno : (Value.slice (some ⟨go, 0, none⟩) 8 8).ownBlock ≠ some sb := fun e => by injection e with e; exact ty_ne hco HSR.out.box (by decide) e
          have HCOD := Lib.hid ((((HSR.out.cod.setOther ⟨sb, 1, none⟩ (.int .i64 (TV : Int)) hnc).setOther ⟨sb, 2, none⟩ (.int .i64 (t.g : Int)) hnc).setOther ⟨sb, 3, none⟩ (.int .i64 (t.p : Int)) hnc).drew)
          have HMAI := Lib.hid ((((HSR.out.mai.setOther ⟨sb, 1, none⟩ (.int .i64 (TV : Int)) hng).setOther ⟨sb, 2, none⟩ (.int .i64 (t.g : Int)) hng).setOther ⟨sb, 3, none⟩ (.int .i64 (t.p : Int)) hng).drew)
          have HOTH := Lib.hid ((((HSR.out.oth.setOther ⟨sb, 1, none⟩ (.int .i64 (TV : Int)) hno).setOther ⟨sb, 2, none⟩ (.int .i64 (t.g : Int)) hno).setOther ⟨sb, 3, none⟩ (.int .i64 (t.p : Int)) hno).drew)
          have HRE := Lib.hid (((HRES.out.setOther (c := sb) (j := 1) (.int .i64 (TV : Int)) (by omega)).setOther (c := sb) (j := 2) (.int .i64 (t.g : Int)) (by omega)).setOther (c := sb) (j := 3) (.int .i64 (t.p : Int)) (by omega)).drew
          have HBE := Lib.hid ((((HB.out.setCell (p := ⟨sb, 1, none⟩) (by simp; omega) (.int .i64 (TV : Int))).setCell (p := ⟨sb, 2, none⟩) (by simp; omega) (.int .i64 (t.g : Int))).setCell (p := ⟨sb, 3, none⟩) (by simp; omega) (.int .i64 (t.p : Int))).drew)
          obtain ⟨W, hW⟩ : ∃ x, x = (((wo.setCell ⟨sb, 1, none⟩ (.int .i64 (TV : Int))).setCell ⟨sb, 2, none⟩ (.int .i64 (t.g : Int))).setCell ⟨sb, 3, none⟩ (.int .i64 (t.p : Int))).drew := ⟨_, rfl⟩
          rw [← hW]
          rw [← hW] at HCOD HMAI HOTH HRE HBE HBX
          clear hW HSR HRES HB HLN hcg hco l1 l3 l4
          have b4 := HBX.out.cell (j := 4) rfl
          have b5 := HBX.out.cell (j := 5) rfl
          have f4 := HBX.out.free 4
          have f5 := HBX.out.free 5
          go_wp2_with fail
          go_cut [129] (fun sv wc => sv = .pointer (some ⟨sb, 4, none⟩) ∧ wc = ((W.setCell ⟨sb, 4, none⟩ (.slice (some ⟨gm, 0, none⟩) 8 8)).setCell ⟨sb, 5, none⟩ (.slice (some ⟨go, 0, none⟩) 8 8)).drew)
          case first =>
            go_region_with (go_at_call 38; refine (ship_Clip _ _).mono ?_; rintro e w2 ⟨rfl, rfl⟩)
            all_goals (try go_wp2_with fail)
            all_goals go_meet
            all_goals exact ⟨rfl, rfl⟩
          case rest =>
            obtain ⟨rfl, rfl⟩ := hcut
            have HCOD5 := Lib.hid (((HCOD.out.setOther ⟨sb, 4, none⟩ (.slice (some ⟨gm, 0, none⟩) 8 8) hnc).setOther ⟨sb, 5, none⟩ (.slice (some ⟨go, 0, none⟩) 8 8) hnc).drew)
            have HMAI5 := Lib.hid (((HMAI.out.setOther ⟨sb, 4, none⟩ (.slice (some ⟨gm, 0, none⟩) 8 8) hng).setOther ⟨sb, 5, none⟩ (.slice (some ⟨go, 0, none⟩) 8 8) hng).drew)
            have HOTH5 := Lib.hid (((HOTH.out.setOther ⟨sb, 4, none⟩ (.slice (some ⟨gm, 0, none⟩) 8 8) hno).setOther ⟨sb, 5, none⟩ (.slice (some ⟨go, 0, none⟩) 8 8) hno).drew)
            have HRE5 := Lib.hid ((HRE.out.setOther (c := sb) (j := 4) (.slice (some ⟨gm, 0, none⟩) 8 8) (by omega)).setOther (c := sb) (j := 5) (.slice (some ⟨go, 0, none⟩) 8 8) (by omega)).drew
            have HBE5 := Lib.hid ((((HBE.out.setCell (p := ⟨sb, 4, none⟩) (by simp; omega) (.slice (some ⟨gm, 0, none⟩) 8 8))).setCell (p := ⟨sb, 5, none⟩) (by simp; omega) (.slice (some ⟨go, 0, none⟩) 8 8)).drew)
            have HBX5 : Hid (BoxV ((W.setCell ⟨sb, 4, none⟩ (.slice (some ⟨gm, 0, none⟩) 8 8)).setCell ⟨sb, 5, none⟩ (.slice (some ⟨go, 0, none⟩) 8 8)).drew sb 48 [.slice CA n c0, .int .i64 (TV : Int), .int .i64 (t.g : Int), .int .i64 (t.p : Int), .slice (some ⟨gm, 0, none⟩) 8 8, .slice (some ⟨go, 0, none⟩) 8 8]) := ((HBX.out.set 4 _).set 5 _).drew
            obtain ⟨X, hX⟩ : ∃ x, x = ((W.setCell ⟨sb, 4, none⟩ (.slice (some ⟨gm, 0, none⟩) 8 8)).setCell ⟨sb, 5, none⟩ (.slice (some ⟨go, 0, none⟩) 8 8)).drew := ⟨_, rfl⟩
            rw [← hX]
            rw [← hX] at HCOD5 HMAI5 HOTH5 HRE5 HBE5 HBX5
            clear hX HCOD HMAI HOTH HRE HBE HBX b4 b5 f4 f5 hnc hng hno hne hne2
            have a0 := HBX5.out.cell (j := 0) rfl; have a1 := HBX5.out.cell (j := 1) rfl; have a2 := HBX5.out.cell (j := 2) rfl
            have a3 := HBX5.out.cell (j := 3) rfl; have a4 := HBX5.out.cell (j := 4) rfl; have a5 := HBX5.out.cell (j := 5) rfl
            have r0 := HRE5.out.cell (j := 0) rfl; have r1 := HRE5.out.cell (j := 1) rfl; have r2 := HRE5.out.cell (j := 2) rfl
            have r3 := HRE5.out.cell (j := 3) rfl; have r4 := HRE5.out.cell (j := 4) rfl; have r5 := HRE5.out.cell (j := 5) rfl
            have g0 := HRE5.out.free 0; have g1 := HRE5.out.free 1; have g2 := HRE5.out.free 2; have g3 := HRE5.out.free 3; have g4 := HRE5.out.free 4; have g5 := HRE5.out.free 5
            go_wp2_with fail
            have hF := (((((HRE5.out.set 0 (.slice CA n c0)).set 1 (.int .i64 (TV : Int))).set 2 (.int .i64 (t.g : Int))).set 3 (.int .i64 (t.p : Int))).set 4 (.slice (some ⟨gm, 0, none⟩) 8 8)).set 5 (.slice (some ⟨go, 0, none⟩) 8 8)
            have F0 := hF.cell (j := 0) rfl; have F1 := hF.cell (j := 1) rfl; have F2 := hF.cell (j := 2) rfl
            have F3 := hF.cell (j := 3) rfl; have F4 := hF.cell (j := 4) rfl; have F5 := hF.cell (j := 5) rfl
            have hn1 := HCOD5.out.notBox HRE5.out (by decide)
            have hn2 := HMAI5.out.notBox HRE5.out (by decide)
            have hn3 := HOTH5.out.notBox HRE5.out (by decide)
            refine bodyPost_ret (v := .tuple #[.agg #[.slice CA n c0, .int .i64 (TV : Int), .int .i64 (t.g : Int), .int .i64 (t.p : Int), .slice (some ⟨gm, 0, none⟩) 8 8, .slice (some ⟨go, 0, none⟩) 8 8], .int .i64 0]) (by simp [results, Try.f20, go_sem, F0, F1, F2, F3, F4, F5]) rfl ?_
            refine ⟨_, gm, go, by rw [HT.out, HTV.out], ?_, ?_, ?_, ?_⟩
            · rw [HT.out]; exact (((((HCOD5.out.setOther _ _ hn1).setOther _ _ hn1).setOther _ _ hn1).setOther _ _ hn1).setOther _ _ hn1).setOther _ _ hn1
            · rw [HT.out]; exact (((((HMAI5.out.setOther _ _ hn2).setOther _ _ hn2).setOther _ _ hn2).setOther _ _ hn2).setOther _ _ hn2).setOther _ _ hn2
            · rw [HT.out]; exact (((((HOTH5.out.setOther _ _ hn3).setOther _ _ hn3).setOther _ _ hn3).setOther _ _ hn3).setOther _ _ hn3).setOther _ _ hn3
            · exact (((((HBE5.out.setCell (Nat.le_refl _) _).setCell (Nat.le_refl _) _).setCell (Nat.le_refl _) _).setCell (Nat.le_refl _) _).setCell (Nat.le_refl _) _).setCell (Nat.le_refl _) _
end Go.Proofs.Ytglcljlafioleaa

import Derived.Test.YtmepiiheidmbgaaKraftm
set_option linter.unusedVariables false
namespace Go.Proofs.Ytmepiiheidmbgaa
open Go.RowKit Go.Shelf Go.Sort

theorem ins_nil (g : Nat) (cb : Array Value) (w : World) : Calls Try.prog 90 #[.slice none 0 0, .int .i64 0, .int .i64 0, .func (.func g) #[] cb] w (Ret w (.tuple #[])) := by
  go_enter Try.func90, Try.ntmps90
  go_wp2
  refine wp_loop_rounds 1 ?_
  rw [rounds_succ]
  go_wp2
  go_end0
  exact ⟨rfl, rfl⟩
theorem sort_nil (g : Nat) (cb : Array Value) (w : World) : Calls Try.prog 67 #[.slice none 0 0, .func (.func g) #[] cb] w (Ret w (.tuple #[])) := by
  have c0 := ins_nil g cb w
  have c1 : Calls Try.prog 82 #[.slice none 0 0, .int .i64 0, .func (.func g) #[] cb] w (Ret w (.tuple #[])) := by
    go_enter Try.func82, Try.ntmps82
    go_wp2
    refine wp_loop_rounds 1 ?_
    rw [rounds_succ]
    go_wp2_with (go_at_call 90; refine c0.mono ?_; clear c0; rintro e w' ⟨rfl, rfl⟩)
    refine wp_loop_rounds 1 ?_
    rw [rounds_succ]
    go_wp2
    go_end0
    exact ⟨rfl, rfl⟩
  clear c0
  go_enter Try.func67, Try.ntmps67
  go_wp2_with (go_at_call 82; refine c1.mono ?_; clear c1; rintro e w' ⟨rfl, rfl⟩)
  go_end0
  exact ⟨rfl, rfl⟩
/-- the code -/
def kmC (ns : List Nat) : List (List Bool) := (List.range ns.length).map (kmW ns)
/-- what is stored when the symbols of s have been -/
def kmP (ns : List Nat) (p : Nat → Bool) : List (List Bool) := (List.range ns.length).map fun j => if p j then kmW ns j else []
theorem kmP_none (ns : List Nat) (p : Nat → Bool) (h : ∀ j, j < ns.length → p j = false) : (kmP ns p).map vb = List.replicate ns.length [] := by
  unfold kmP
  apply List.ext_getElem (by simp)
  intro i h1 h2
  have hi : i < ns.length := by simpa using h2
  simp [h i hi]
theorem kmP_all (ns : List Nat) (p : Nat → Bool) (h : ∀ j, j < ns.length → p j = true) : kmP ns p = kmC ns := by
  unfold kmP kmC
  apply List.map_congr_left
  intro j hj
  rw [if_pos (h j (List.mem_range.1 hj))]
theorem kmP_set (ns : List Nat) (p q : Nat → Bool) (i : Nat) (hi : i < ns.length) (h : ∀ j, j < ns.length → q j = (p j || decide (j = i))) : ((kmP ns p).map vb).set i (vb (kmW ns i)) = (kmP ns q).map vb := by
  rw [← List.map_set]
  congr 1
  unfold kmP
  apply List.ext_getElem (by simp)
  intro j h1 h2
  have hj : j < ns.length := by simpa using h2
  rw [List.getElem_set]
  simp only [List.getElem_map, List.getElem_range]
  by_cases e : i = j
  · subst e
    rw [if_pos rfl, if_pos (by rw [h i hi]; simp)]
  · rw [if_neg e, h j hj]
    simp [Ne.symm e]
theorem kmP_len (ns : List Nat) (p : Nat → Bool) : (kmP ns p).length = ns.length := by simp [kmP]
theorem ltOf_cmp {m : Nat} (ns : List Nat) : (ltOf fun x y : Fin (m + 1) => cmpI ((ns.getD x.val 0 : Nat) : Int) ((ns.getD y.val 0 : Nat) : Int)) = ltK fun i : Fin (m + 1) => ns.getD i.val 0 := by
  funext x y
  unfold ltOf ltK cmpI
  rw [Bool.eq_iff_iff]
  simp only [decide_eq_true_eq]
  split
  · rename_i h; constructor
    · intro _; omega
    · intro _; omega
  · rename_i h; constructor
    · intro h2; split at h2 <;> omega
    · intro h2; omega
theorem order_facts (m k : Nat) (ns : List Nat) (hk : k = m + 1) : ∃ r : List (Fin (m + 1)), (insertionSort (ltOf fun x y : Fin (m + 1) => cmpI ((ns.getD x.val 0 : Nat) : Int) ((ns.getD y.val 0 : Nat) : Int)) (List.finRange (m + 1)).toArray 0 k).toList = r ∧ r.Perm (List.finRange (m + 1)) ∧ r.Pairwise (fun x y => ltL (fun i => ns.getD i.val 0) y x = false) := by
  subst hk
  rw [ltOf_cmp]
  have h := stable_lex (fun i : Fin (m + 1) => ns.getD i.val 0) (List.finRange (m + 1)).toArray (by simp) (fun p hp => by simp [hp])
  exact ⟨_, rfl, by simpa using h.1, h.2⟩
theorem kmP_step (ns : List Nat) {m : Nat} {r : List (Fin (m + 1))} {t : Nat} {i : Fin (m + 1)} (ht : r[t]? = some i) (hi : i.val < ns.length) :
    ((kmP ns fun j => (r.take t).any fun x => decide (x.val = j)).map vb).set i.val (vb (kmW ns i.val)) = (kmP ns fun j => (r.take (t + 1)).any fun x => decide (x.val = j)).map vb := by
  refine kmP_set ns _ _ i.val hi fun j _ => ?_
  rw [take_next ht, List.any_append]
  simp [eq_comm]
abbrev PostK (w : World) (E : TypeId) (good : Option Addr → Nat → Nat → Ending) (ls : List (List Bool)) : Ending → World → Prop :=
  fun e w' => Below w.heap.size w w' ∧ ∃ A' n' c', e = good A' n' c' ∧ OwnR w' w.heap.size E (.slice A' n' c') (ls.map vb) ∧ n' ≤ 8
set_option maxHeartbeats 800000 in
theorem kraft_Make0 (A : Option Addr) (c S : Nat) (w : World) (hS : S ≤ 256) (cs : ∀ W, Below w.heap.size w W → Calls Try.prog 66 #[.slice A 0 c] W (Ret W (.tuple #[.int .i64 (S : Int), .int .i64 0]))) :
    Calls Try.prog 39 #[.slice A 0 c] w (PostK w 23 (fun A' n' c' => .returned (.tuple #[.slice A' n' c', .int .i64 0])) []) := by
  obtain ⟨n, hn⟩ : ∃ n, n = 0 := ⟨_, rfl⟩
  have i1 : ¬ (256 : Int) < (S : Int) := by omega
  have cn := fun (g : Nat) (cb : Array Value) (W : World) => sort_nil g cb W
  go_enter Try.func39, Try.ntmps39
  go_wp2_with (go_at_call 66; refine (cs _ ((Below.refl _ w).alloc (Nat.le_refl _) _)).mono ?_; clear cs; rintro e w' ⟨rfl, rfl⟩)
  refine wp_loop_rounds 1 ?_
  rw [rounds_succ]
  go_wp2_with (first
    | (go_at_call 67; refine (cn _ _ _).mono ?_; clear cn; rintro e w' ⟨rfl, rfl⟩)
    | (at_make; refine mkN el_rowsK rfl _ _ rfl w.heap.size 0 rfl rfl rfl rfl (by omega) (by unfold maxLen; omega) (by simp) ?_; intro w2 ho2 hb2 hs2))
  refine wp_loop_rounds 1 ?_
  rw [rounds_succ]
  go_wp2
  go_ret2
  have hb := ((Below.refl w.heap.size w).alloc (Nat.le_refl _) (.cells #[.slice A 0 c] 50)).trans (hb2.mono (by simp))
  have ho3 := OwnR.made ho2
  have hsz : (w.alloc (.cells #[.slice A 0 c] 50)).heap.size = w.heap.size + 1 := by simp
  rw [hsz] at ho3
  exact ⟨hb, _, 0, 0, rfl, ho3, by omega⟩
set_option maxRecDepth 100000 in
set_option maxHeartbeats 1600000 in
theorem kraft_Make (A : Option Addr) (n c S m : Nat) (ns : List Nat) (w : World) (h : Reads w w.heap.size A n (vn .i64 ns)) (hn : n ≤ 8) (hm : Hid (n = m + 1)) (hl : ∀ x ∈ ns, x ≤ 8) (hS : S ≤ 256) (hSK : Hid (S = kTot ns)) (cs : ∀ W, Below w.heap.size w W → Calls Try.prog 66 #[.slice A n c] W (Ret W (.tuple #[.int .i64 (S : Int), .int .i64 0]))) :
    Calls Try.prog 39 #[.slice A n c] w (PostK w 23 (fun A' n' c' => .returned (.tuple #[.slice A' n' c', .int .i64 0])) (kmC ns)) := by
  have H := Lib.hid h.nat_len
  have HL := Lib.hid hl
  obtain ⟨ad, rfl, hadb, hcell0⟩ := h.cells (by have := hm.out; omega)
  have i1 : ¬ (256 : Int) < (S : Int) := by omega
  have hcells : Hid (∀ W : World, Below w.heap.size w W → ∀ (j y : Nat), ns[j]? = some y → W.cell? (ad.add j) = some (.int .i64 (y : Int))) := by
    intro W hW j y hy
    exact (hW.cell (by rw [block_of_add]; exact hadb)).trans (hcell0 j _ (by rw [List.getElem?_map, hy]; rfl))
  clear hl hcell0
  obtain ⟨B, hB⟩ : ∃ B, B = w.heap.size := ⟨_, rfl⟩
  have hb1 : Below w.heap.size w (w.alloc (.cells #[.slice (some ad) n c] 50)) := (Below.refl _ w).alloc (Nat.le_refl _) _
  have hbox1 : (w.alloc (.cells #[.slice (some ad) n c] 50)).cell? ⟨B, 0, none⟩ = some (.slice (some ad) n c) := by rw [hB]; exact cell_one_new _ _ _ 0 _ rfl
  have hsz1 : (w.alloc (.cells #[.slice (some ad) n c] 50)).heap.size = B + 1 := by rw [hB]; simp
  go_enter Try.func39, Try.ntmps39
  go_wp2_with (go_at_call 66; refine (cs _ hb1).mono ?_; clear cs; rintro e w' ⟨rfl, rfl⟩)
  rw [← hB]
  generalize w.alloc (.cells #[.slice (some ad) n c] 50) = w1 at *
  rw [hB] at hsz1
  have hBw : B = w.heap.size := hB
  have HB := Lib.hid hBw
  clear hBw hB
  go_loopw [6, 24] (fun v i wr => ∃ k : Nat, k ≤ n ∧ i = .int .i64 k ∧ Own wr (w.heap.size + 1) 3 v (vn .i64 (List.range k)) ∧ Below (w.heap.size + 1) w1 wr) (fun _ i _ => n - (intOf i).toNat)
  case atStart => exact ⟨0, by omega, rfl, Own.nil _ _ _, Below.refl _ _⟩
  case round =>
    obtain ⟨k, hk, rfl, hown, hbel⟩ := hrel
    have hvl : Hid ((vn .i64 (List.range k)).length = k) := by unfold Hid; simp
    have hB1 : w.heap.size + 1 ≤ wr.heap.size := by have := hbel.size; omega
    by_cases hlt : k < n
    · have HN : Hid (vn .i64 (List.range k) ++ [Value.int .i64 (k : Int)] = vn .i64 (List.range (k + 1))) := by unfold Hid; rw [List.range_succ]; simp [vn]
      go_wp2_with (at_builtin; refine app1 el_intK rfl _ _ rfl rfl hown _ _ rfl rfl (by rw [hvl.out]; unfold maxLen; omega) (by rw [hvl.out]; omega) hB1 ?_; intro v2 w2 ho2 hb2 _ _)
      rw [HN.out] at ho2
      go_roundw
      case rel => exact ⟨k + 1, by omega, by go_num, ho2, hbel.trans hb2⟩
      case measure => simp [intOf]; omega
    · obtain rfl : k = n := by omega
      obtain ⟨A1, c1, e1⟩ := hown.form
      rw [hvl.out] at e1
      subst e1
      obtain ⟨ad1, rfl, _⟩ := hown.reads.cells (by have := hm.out; omega)
      obtain ⟨g1, rfl, hg1, hg2⟩ := hown.addr
      have hxs : vn .i64 (List.range k) = (List.finRange (m + 1)).map fun i : Fin (m + 1) => Value.int .i64 (i.val : Int) := by
        rw [hm.out]
        unfold vn
        apply List.ext_getElem (by simp)
        intro i h1 h2
        simp
      rw [hxs] at hown
      have hbox2 : wr.cell? ⟨B, 0, none⟩ = some (.slice (some ad) k c) := (hbel.cell (by show B < _; have := HB.out; omega)).trans hbox1
      have hbelw : Below w.heap.size w wr := hb1.trans (hbel.mono (by omega))
      have hsort := own_stable (fun i : Fin (m + 1) => Value.int .i64 (i.val : Int)) (fun _ => rfl) (fun x y => cmpI (ns.getD x.val 0) (ns.getD y.val 0)) 68 #[.pointer (some ⟨B, 0, none⟩)] ⟨g1, 0, none⟩ k c1 (List.finRange (m + 1)) wr hown (by omega) (enters_of Try.func68 (by kernel_rfl) rfl) (fun W hW x y => by
        have hx : x.val < k := by have := x.isLt; have := hm.out; omega
        have hy : y.val < k := by have := y.isLt; have := hm.out; omega
        have hxe : ns[x.val]? = some (ns.getD x.val 0) := by rw [List.getD_eq_getElem?_getD, List.getElem?_eq_getElem (by rw [H.out]; exact hx)]; rfl
        have hye : ns[y.val]? = some (ns.getD y.val 0) := by rw [List.getD_eq_getElem?_getD, List.getElem?_eq_getElem (by rw [H.out]; exact hy)]; rfl
        have hbW : Below w.heap.size w W := hbelw.trans (grown_below hW hbelw.size (fun q e => by cases e; show w.heap.size ≤ g1; omega))
        have hboxW : W.cell? ⟨B, 0, none⟩ = some (.slice (some ad) k c) := hW.cell hbox2 (by intro e; injection e with e; have e : B = g1 := e; have := HB.out; omega)
        exact kraft_less x.val y.val k c B _ _ ad W hboxW (hcells.out W hbW _ _ hxe) (hcells.out W hbW _ _ hye) hx hy (by omega))
      obtain ⟨r, hr, hperm, hpw⟩ := order_facts m k ns hm.out
      rw [hr] at hsort
      have hrl : r.length = k := by rw [hperm.length_eq, hm.out]; simp
      have HRL := Lib.hid hrl
      have HP := Lib.hid hperm
      have HPW := Lib.hid hpw
      clear hr hperm hpw hrl hxs hown
      go_wp2_with (first
        | (go_at_call 67; refine hsort.mono ?_; clear hsort; rintro e w2 ⟨rfl, ho2, hg2'⟩; have hbox3 : w2.cell? ⟨B, 0, none⟩ = some (.slice (some ad) k c) := hg2'.cell hbox2 (by intro e; injection e with e; have e : B = g1 := e; have := HB.out; omega); have hbel2 : RowKit.Below w.heap.size w w2 := hbelw.trans (grown_below hg2' hbelw.size (fun q e => by cases e; show w.heap.size ≤ g1; omega)); have hsz2 := hg2'.size)
        | (at_make; refine mkN el_rowsK rfl _ _ rfl w2.heap.size k rfl rfl rfl rfl (by omega) (by unfold maxLen; omega) (Nat.le_refl _) ?_; intro w3 ho3 hb3 hs3))
      have hR3 := OwnR.made ho3
      have hlen0 := kmP_none ns (fun j => (r.take 0).any fun x => decide (x.val = j)) (fun j _ => by simp)
      rw [H.out] at hlen0
      rw [← hlen0] at hR3
      clear ho3 hlen0
      have hord : ∀ W, RowKit.Below w2.heap.size w2 W → ∀ (t : Nat) (i : Fin (m + 1)), r[t]? = some i → W.cell? ⟨g1, t, none⟩ = some (.int .i64 (i.val : Int)) := by
        intro W hW t i hi
        have h1 := ho2.cell (j := t) (u := .int .i64 (i.val : Int)) (by rw [List.getElem?_map, hi]; rfl)
        rw [add_row] at h1
        have hg : g1 < w2.heap.size := by omega
        exact (hW.cell hg).trans h1
      have HORD := Lib.hid hord
      have hBw2 : B < w2.heap.size := by have := HB.out; omega
      clear hord ho2 hg2'
      go_loopw [9, 40] (fun av tv wr => ∃ t a : Nat, t ≤ k ∧ tv = .int .i64 t ∧ av = .int .i64 a ∧ a ≤ 256 ∧ Hid (a = ((r.take t).map fun j => 2 ^ (8 - ns.getD j.val 0)).sum) ∧ OwnR wr w2.heap.size 23 (.slice (some ⟨w2.heap.size, 0, none⟩) k k) ((kmP ns fun j => (r.take t).any fun x => decide (x.val = j)).map vb) ∧ RowKit.Below w2.heap.size w2 wr) (fun _ tv _ => k - (intOf tv).toNat)
      case atStart => exact ⟨0, 0, by omega, rfl, rfl, by omega, by unfold Hid; simp, hR3, hb3⟩
      case round =>
        clear hR3 hb3 hs3
        obtain ⟨t, a, htk, rfl, rfl, ha, hsum, hown, hbel⟩ := hrel
        by_cases hlt : t < k
        · obtain ⟨i, hi⟩ : ∃ i, r[t]? = some i := ⟨r[t]'(by rw [HRL.out]; exact hlt), List.getElem?_eq_getElem _⟩
          obtain ⟨s, hs⟩ : ∃ s, ns.getD i.val 0 = s := ⟨_, rfl⟩
          have hik : i.val < k := by have := i.isLt; have := hm.out; omega
          have hse : ns[i.val]? = some s := by rw [← hs, List.getD_eq_getElem?_getD, List.getElem?_eq_getElem (by rw [H.out]; exact hik)]; rfl
          have hs8 : s ≤ 8 := HL.out s (mem_at hse)
          have hat : a = atS ns s i.val := by rw [hsum.out, take_sum (by rw [H.out, hm.out]) rfl HP.out HPW.out hi, hs]
          have hroom := atS_room (ns := ns) (i := i.val) (by rw [H.out]; exact hik)
          rw [hs, ← hat, ← hSK.out] at hroom
          obtain ⟨e, he⟩ : ∃ e, e + s = 8 := ⟨8 - s, by omega⟩
          have he2 : 8 - s = e := by omega
          rw [he2] at hroom
          have i8 : (8 : Int) - (s : Int) = (e : Int) := by omega
          have i9 : IntKind.i64.wrap (e : Int) = (e : Int) := IntWalk.i64_in _ (by omega)
          have i10 : (0 : Int) ≤ (e : Int) := by omega
          have i11 : (e : Int) ≤ 64 := by omega
          obtain ⟨P, hP⟩ : ∃ P, 2 ^ e = P := ⟨_, rfl⟩
          have hP1 : 1 ≤ P := by rw [← hP]; exact Nat.pow_pos (by omega)
          have hPi : (2 : Int) ^ e = (P : Int) := by rw [← hP]; exact (Int.natCast_pow 2 e).symm
          obtain ⟨x0, hx0⟩ : ∃ x0, a / P = x0 := ⟨_, rfl⟩
          have hx0b : x0 ≤ 256 := by rw [← hx0]; exact Nat.le_trans (Nat.div_le_self _ _) ha
          have hq : (a : Int) / (P : Int) = (x0 : Int) := by rw [← hx0]; exact (Int.natCast_ediv a P).symm
          have HW : Hid (kmW ns i.val = digitsL x0 s) := by unfold Hid kmW; rw [hs, ← hat, he2, hP, hx0]
          have HSUM : Hid (a + P = ((r.take (t + 1)).map fun j => 2 ^ (8 - ns.getD j.val 0)).sum) := by
            unfold Hid; rw [take_next hi, List.map_append, List.sum_append, ← hsum.out]; simp only [List.map_cons, List.map_nil, List.sum_cons, List.sum_nil, Nat.add_zero]; rw [hs, he2, hP]
          have HST := Lib.hid (kmP_step ns hi (by rw [H.out]; exact hik))
          rw [HW.out] at HST
          rw [hP] at hroom
          have hbw : ∀ W, RowKit.Below w2.heap.size w2 W → RowKit.Below w.heap.size w W := fun W hW => hbel2.trans (hW.mono hbel2.size)
          have hBC : Hid (∀ W, RowKit.Below w2.heap.size w2 W → W.cell? ⟨B, 0, none⟩ = some (.slice (some ad) k c) ∧ W.cell? (ad.add i.val) = some (.int .i64 (s : Int))) := fun W hW => ⟨(hW.cell hBw2).trans hbox3, hcells.out W (hbw W hW) _ _ hse⟩
          obtain ⟨cb1, cl1⟩ := hBC.out wr hbel
          have co1 := HORD.out wr hbel t i hi
          have cd := fun W => kraft_Digits x0 s W (by omega) (by omega)
          have hdl := Lib.hid (digitsL_len x0 s)
          have j0 : (0 : Int) ≤ (i.val : Int) := by omega
          have j1 : (i.val : Int) < (k : Int) := by omega
          clear hi hs hse hat he he2 hP hx0 hbw hsum
          generalize i.val = iv at *
          clear i
          have hdr := hown.below (w' := wr.drew) ((RowKit.Below.refl _ wr).drew)
          go_wp2
          go_region_law (go_simp; go_at_call 70; refine (cd _).mono ?_; clear cd; rintro e wd ⟨Ad, nd, kd, rfl, hod, hbd⟩; have hownd := hdr.below hbd; have hfr : wd.frozen? ⟨w2.heap.size, iv, none⟩ = false := (by obtain ⟨vs, hv, _⟩ := hownd; have := hv.frozenAt iv; rwa [add_row] at this); have hcl : ∃ y, wd.cell? ⟨w2.heap.size, iv, none⟩ = some y := (by obtain ⟨vs, hv, _⟩ := hownd; have h2 := hv.len; have := hv.cell (j := iv) (List.getElem?_eq_getElem (by omega)); rw [add_row] at this; exact ⟨_, this⟩); obtain ⟨y0, hcl⟩ := hcl)
          all_goals
            have hnd : nd ≤ maxLen := by have := hod.reads.bool_len; have := hdl.out; unfold maxLen; omega
            have hw2r : w2.heap.size < wr.heap.size := by obtain ⟨vs, hv, _⟩ := hown; exact (Own.lt hv w2.heap.size rfl).2
            have hset := hownd.set iv (c' := kd) hod.reads hnd (fun a ha => ⟨by have := hod.beyond a ha; have e : wr.drew.heap.size = wr.heap.size := rfl; show a.block ≠ w2.heap.size; omega, by subst ha; exact (Own.lt hod a.block rfl).2⟩)
            rw [add_row, HST.out] at hset
            have hb5 : RowKit.Below w2.heap.size w2 (wd.setCell ⟨w2.heap.size, iv, none⟩ (.slice Ad nd kd)) := ((hbel.drew).trans (hbd.mono (by have e : wr.drew.heap.size = wr.heap.size := rfl; omega))).setCell (Nat.le_refl _) _
            obtain ⟨cb5, cl5⟩ := hBC.out _ hb5
            go_wp2
            go_roundw
            case rel => exact ⟨t + 1, a + P, by omega, by go_num, by go_num, by omega, HSUM, hset, hb5⟩
            case measure => simp [intOf]; omega
        · obtain rfl : t = k := by omega
          have hfull := kmP_all ns (fun j => (r.take t).any fun x => decide (x.val = j)) (fun j hj => by
            rw [List.take_of_length_le (Nat.le_of_eq HRL.out), List.any_eq_true]
            have hj2 : j < m + 1 := by have := H.out; have := hm.out; omega
            exact ⟨⟨j, hj2⟩, HP.out.mem_iff.2 (List.mem_finRange _), by simp⟩)
          rw [hfull] at hown
          clear hfull
          go_wp2
          go_ret2
          exact ⟨hbel2.trans (hbel.mono hbel2.size), _, _, _, rfl, hown.low hbel2.size, hn⟩
end Go.Proofs.Ytmepiiheidmbgaa

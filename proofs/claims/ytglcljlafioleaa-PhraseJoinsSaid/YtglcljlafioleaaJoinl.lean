/-
  phrase.Join where a phrase is bad; too many phrases; the law.
-/
import Derived.Test.YtglcljlafioleaaJoinp
import Derived.Test.YtglcljlafioleaaBytesEq
set_option linter.unusedVariables false
namespace Go.Proofs.Ytglcljlafioleaa
open Go.RowKit

set_option maxRecDepth 100000 in
set_option maxHeartbeats 2000000 in
theorem phrase_Join_bad (A : Option Addr) (n c i : Nat) (q qb : Int) (xss : List (List Value)) (ps : List (Nat × Nat)) (w : World) (h : ReadsK w w.heap.size 2 A n xss) (hi : i < n) (hx : Hid (∀ (k : Nat) (z : Nat × Nat), k < i → ps[k]? = some z → xss[k]? = some [Value.int .i64 (z.1 : Int), Value.int .u8 (z.2 : Int)])) (hl : Hid (ps.length = n)) (hn : n ≤ 64)
    (hgood : Hid (∀ (k : Nat) (z : Nat × Nat), k < i → ps[k]? = some z → z.1 ≤ k)) (hxi : Hid (xss[i]? = some [Value.int .i64 q, Value.int .u8 qb])) (hbad : q < 0 ∨ (i : Int) < q) :
    Calls Try.prog 12 #[.slice A n c] w (RetB w (.tuple #[.slice none 0 0, .int .i64 2])) := by
  have hn64 : ¬ (64 : Int) < (n : Int) := by omega
  go_enter Try.func12, Try.ntmps12
  go_wp2
  have hos0 : Own (w.alloc (.cells #[.int .i64 0] 3)) w.heap.size 3 (.slice (some ⟨w.heap.size, 0, none⟩) 1 1) (vn .i64 (joinS ps 0)) := Own.built w #[.int .i64 0] 1 rfl (by unfold maxLen; omega) (Nat.le_refl _)
  have hbs0 : Below w.heap.size w (w.alloc (.cells #[.int .i64 0] 3)) := (Below.refl _ _).alloc (Nat.le_refl _) _
  have HOS0 := Lib.hid hos0
  have HBS0 := Lib.hid hbs0
  clear hos0 hbs0
  go_loopw [4, 5, 19] (fun sv av iv wr => ∃ k : Nat, k ≤ i ∧ iv = .int .i64 (k : Int) ∧ Own wr w.heap.size 3 sv (vn .i64 (joinS ps k)) ∧ av = .int .i64 ((joinO ps k).length : Int) ∧ Below w.heap.size w wr) (fun _ _ iv _ => n - (intOf iv).toNat)
  case atStart => exact ⟨0, by omega, rfl, HOS0.out, rfl, HBS0.out⟩
  case round =>
    obtain ⟨k, hk, rfl, hsz, rfl, hbel⟩ := hrel
    clear HOS0 HBS0
    obtain ⟨wo, rfl⟩ : ∃ x, x = wr := ⟨_, rfl⟩
    by_cases hlt : k < i
    · have i1 : (k : Int) < (n : Int) := by omega
      obtain ⟨ad, xs, e, hb, hxs, _, hcs⟩ := (h.below hbel).at_ (i := k) (by omega)
      subst e
      obtain ⟨z, hz⟩ : ∃ z, ps[k]? = some z := ⟨_, List.getElem?_eq_getElem (by have := hl.out; omega)⟩
      have hzk := hgood.out k z hlt hz
      rw [hx.out k z hlt hz] at hxs
      injection hxs with hxs
      subst hxs
      have c0 := hcs 0 _ rfl
      have c1 := hcs 1 _ rfl
      rw [Nat.add_zero] at c0
      rw [add_second] at c1
      obtain ⟨p, b⟩ := z
      have hpk : p ≤ k := hzk
      have p1 : ¬ (p : Int) < 0 := by omega
      have p2 : ¬ (k : Int) < (p : Int) := by omega
      have p3 : (0 : Int) ≤ (p : Int) := by omega
      obtain ⟨s, hs⟩ : ∃ s, (joinS ps k)[p]? = some s := ⟨_, List.getElem?_eq_getElem (by rw [joinS_length]; omega)⟩
      obtain ⟨hJS, hJL⟩ := joinS_at hz hs
      have hsk := joinS_le ps k s (List.mem_of_getElem? hs)
      have hoL := joinO_le ps k
      have hkk : k * k ≤ 4096 := Nat.le_trans (Nat.mul_le_mul (show k ≤ 64 by omega) (show k ≤ 64 by omega)) (Nat.le_refl _)
      obtain ⟨ad4, c4, e4, hc4⟩ := own_open hsz (by simp [vn, joinS_length])
      have hvl : (vn .i64 (joinS ps k)).length = k + 1 := by simp [vn, joinS_length]
      rw [hvl] at e4
      subst e4
      have hcp0 : wo.cell? (ad4.add p) = some (.int .i64 (s : Int)) := hc4 p _ (by rw [List.getElem?_map, hs]; rfl)
      have hlt4 := (Own.lt hsz ad4.block rfl).2
      obtain ⟨wa, hwa⟩ : ∃ wa, wa = wo.alloc (.cells #[.int .i64 (p : Int), .int .u8 (b : Int)] 69) := ⟨_, rfl⟩
      have hba : Below wo.heap.size wo wa := by rw [hwa]; exact (Below.refl _ _).alloc (Nat.le_refl _) _
      have hsa : wa.heap.size = wo.heap.size + 1 := by rw [hwa]; simp
      have d0 : wa.cell? ⟨wo.heap.size, 0, none⟩ = some (.int .i64 (p : Int)) := by rw [hwa]; exact cell_row_new _ _ _ 0 _ rfl
      have d1 : wa.cell? ⟨wo.heap.size, 1, none⟩ = some (.int .u8 (b : Int)) := by rw [hwa]; exact cell_row_new _ _ _ 1 _ rfl
      have dp : wa.cell? (ad4.add p) = some (.int .i64 (s : Int)) := (hba.cell (p := ad4.add p) (by rw [block_of_add]; exact hlt4)).trans hcp0
      have hsza := hsz.below hba (Nat.le_refl _)
      have hbela := hbel.trans (hba.mono hbel.size)
      have HVL := Lib.hid hvl
      have HJS : Hid (vn .i64 (joinS ps k) ++ [Value.int .i64 ((s : Int) + 1)] = vn .i64 (joinS ps (k + 1))) := by unfold Hid; rw [hJS]; simp [vn]
      have HJL := Lib.hid hJL
      have HJA : Hid ((vn .i64 (joinS ps (k + 1)))[k + 1]? = some (.int .i64 ((s : Int) + 1))) := by
        unfold Hid
        rw [hJS]
        simp [vn, joinS_length]
      have HVL2 : Hid ((vn .i64 (joinS ps (k + 1))).length = k + 2) := by unfold Hid; simp [vn, joinS_length]
      have q1 : (p : Int) < (k : Int) + 1 := by omega
      have q2 : (k : Int) + 1 < (k : Int) + 2 := by omega
      clear hcs hz hzk hs hJS hJL hc4 hvl hcp0 hsz hbel hba hsa
      subst hwa
      go_wp2_with (at_builtin; (refine app1 el_intJ rfl _ _ rfl rfl hsza _ _ (by first | rfl | (go_simp; done) | (go_simp; rfl)) rfl (by rw [HVL.out]; unfold maxLen; omega) (by rw [HVL.out]; omega) hbela.size ?_; intro v2 w2 ho2 hb2 hg2 hat2; rw [HJS.out] at ho2; obtain ⟨ad2, c2, e2, hc2⟩ := own_open ho2 (by simp [vn, joinS_length]); rw [HVL2.out] at e2; subst e2; have hcn : w2.cell? (ad2.add (k + 1)) = some (.int .i64 ((s : Int) + 1)) := hc2 (k + 1) _ HJA.out; have hcn2 : w2.cell? ⟨ad2.block, ad2.off + (k + 1), none⟩ = some (.int .i64 ((s : Int) + 1)) := (by simpa [Addr.add] using hcn); clear hc2))

      have hbel2 := hbela.trans hb2
      go_roundw
      case rel => exact ⟨k + 1, by omega, by go_num, ho2, by rw [HJL.out]; go_num, hbel2⟩
      case measure => simp [intOf] <;> omega
    · obtain rfl : i = k := by omega
      have i1 : (i : Int) < (n : Int) := by omega
      obtain ⟨ad, xs, e, hb, hxs, _, hcs⟩ := (h.below hbel).at_ (i := i) (by omega)
      subst e
      rw [hxi.out] at hxs
      injection hxs with hxs
      subst hxs
      have c0 := hcs 0 _ rfl
      have c1 := hcs 1 _ rfl
      rw [Nat.add_zero] at c0
      rw [add_second] at c1
      clear hcs hsz
      by_cases p1 : q < 0
      · clear hbad
        go_wp2
        go_ret2
        exact ⟨rfl, hbel.alloc hbel.size _⟩
      · have p2 : (i : Int) < q := hbad.resolve_left p1
        clear hbad
        go_wp2
        go_ret2
        exact ⟨rfl, hbel.alloc hbel.size _⟩
theorem join_far (A : Option Addr) (n c : Nat) (w : World) (hn : 64 < n) : Calls Try.prog 12 #[.slice A n c] w (RetB w (.tuple #[.slice none 0 0, .int .i64 1])) := by
  have i1 : (64 : Int) < (n : Int) := by omega
  go_enter Try.func12, Try.ntmps12
  go_wp2
  go_ret2
  exact ⟨rfl, Below.refl _ _⟩
theorem joined_far (A : Option Addr) (n c : Nat) (w : World) (hn : 64 < n) : Calls Try.prog 13 #[.slice A n c] w (RetB w (.tuple #[.slice none 0 0, .int .i64 1])) := by
  have i1 : (64 : Int) < (n : Int) := by omega
  go_enter Try.func13, Try.ntmps13
  go_wp2
  go_ret2
  exact ⟨rfl, Below.refl _ _⟩
theorem bytes_none (w : World) : Calls Try.prog 14 #[.slice none 0 0, .slice none 0 0] w (RetQ w (.bool true)) := ref_Bytes none none 0 0 0 0 [] [] true w (B := 0) (B' := 0) Reads.none_ Reads.none_ (by unfold maxLen; omega) (by unfold Hid; simp)
theorem join_err (A : Option Addr) (n c : Nat) (z : Int) (w : World) (c1 : ∀ W, Below w.heap.size w W → Calls Try.prog 12 #[.slice A n c] W (RetB W (.tuple #[.slice none 0 0, .int .i64 z])))
    (c2 : ∀ W, Below w.heap.size w W → Calls Try.prog 13 #[.slice A n c] W (RetB W (.tuple #[.slice none 0 0, .int .i64 z]))) :
    Calls Try.prog 4 #[.slice A n c] w (LawTrue w) := by
  have i1 : (z == z) = true := by simp
  have c3 := fun W : World => bytes_none W
  go_enter Try.func4, Try.ntmps4
  go_wp2_with (first
    | (go_at_call 12; refine (c1 _ (Below.refl _ _)).mono ?_; clear c1; rintro e w1 ⟨rfl, hb1⟩)
    | (go_at_call 13; refine (c2 _ hb1).mono ?_; clear c2; rintro e w2 ⟨rfl, hb2⟩)
    | (go_at_call 14; refine (c3 _).mono ?_; clear c3; rintro e w3 ⟨rfl, m, rfl⟩))
  go_ret
  exact ⟨rfl, below_drewN (hb1.trans (hb2.mono hb1.size)) _⟩
def GoodJ (zss : List (List Int)) (k : Nat) : Prop := 0 ≤ (zss.getD k []).getD 0 0 ∧ (zss.getD k []).getD 0 0 ≤ (k : Int)
theorem getD_at {zss : List (List Int)} {k : Nat} {y : List Int} (hy : zss[k]? = some y) : zss.getD k [] = y := by rw [List.getD_eq_getElem?_getD, hy]; rfl
theorem goodJ_of {zss : List (List Int)} {k : Nat} {y : List Int} (hy : zss[k]? = some y) (h : GoodJ zss k) : 0 ≤ y.getD 0 0 ∧ y.getD 0 0 ≤ (k : Int) := by
  unfold GoodJ at h
  rwa [getD_at hy] at h
theorem goodJ_not {zss : List (List Int)} {k : Nat} {y : List Int} (hy : zss[k]? = some y) (h : ¬ GoodJ zss k) : y.getD 0 0 < 0 ∨ (k : Int) < y.getD 0 0 := by
  unfold GoodJ at h
  rw [getD_at hy] at h
  omega
theorem join_cases (zss : List (List Int)) : ∀ n, (∀ k, k < n → GoodJ zss k) ∨ ∃ i, i < n ∧ (∀ k, k < i → GoodJ zss k) ∧ ¬ GoodJ zss i
  | 0 => .inl fun k h => absurd h (by omega)
  | n + 1 => by
    rcases join_cases zss n with h | ⟨i, h1, h2, h3⟩
    · by_cases hg : GoodJ zss n
      · exact .inl fun k hk => by
          rcases Nat.lt_or_ge k n with h4 | h4
          · exact h k h4
          · obtain rfl : k = n := by omega
            exact hg
      · exact .inr ⟨n, by omega, h, hg⟩
    · exact .inr ⟨i, by omega, h2, h3⟩
def psOf (zss : List (List Int)) : List (Nat × Nat) := zss.map fun z => ((z.getD 0 0).toNat, (z.getD 1 0).toNat)
def zsOf (zss : List (List Int)) : List (Int × Int) := zss.map fun z => (z.getD 0 0, z.getD 1 0)
theorem two_of {z : List Int} (h : z.length = 2) : z = [z.getD 0 0, z.getD 1 0] := by
  match z, h with
  | [a, b], _ => rfl
theorem PhraseJoins_walk (A : Option Addr) (n c : Nat) (zss : List (List Int)) (w : World) (h : ReadsK w w.heap.size 2 A n (zss.map fun zs => List.zipWith Value.int [.i64, .u8] zs))
    (wf : ∀ zs ∈ zss, zs.length = [IntKind.i64, IntKind.u8].length ∧ ∀ (j : Nat) (z : Int) (k : IntKind), zs[j]? = some z → [IntKind.i64, IntKind.u8][j]? = some k → (Lit.int k z).wf = true) (hm : n * 16 ≤ reachBytes) :
    Calls Try.prog 4 #[.slice A n c] w (LawTrue w) := by
  have hlen : zss.length = n := by have := h.len; rwa [List.length_map] at this
  have wf2 : ∀ (k : Nat) (z : List Int), zss[k]? = some z → z = [z.getD 0 0, z.getD 1 0] ∧ 0 ≤ z.getD 1 0 := by
    intro k z hz
    obtain ⟨h1, h2⟩ := wf z (List.mem_of_getElem? hz)
    have h3 := two_of h1
    refine ⟨h3, ?_⟩
    have := h2 1 (z.getD 1 0) .u8 (by rw [h3]; rfl) rfl
    exact (bounds_u8 this).1
  by_cases h64 : 64 < n
  · exact join_err A n c 1 w (fun W _ => join_far A n c W h64) (fun W _ => joined_far A n c W h64)
  · have hn : n ≤ 64 := by omega
    rcases join_cases zss n with hg | ⟨i, hi, hg, hbad⟩
    · have hgood : ∀ (k : Nat) (z : Nat × Nat), (psOf zss)[k]? = some z → z.1 ≤ k := by
        intro k z hz
        unfold psOf at hz
        rw [List.getElem?_map] at hz
        obtain ⟨y, hy, rfl⟩ := Option.map_eq_some_iff.1 hz
        have hk : k < n := by rw [← hlen]; exact (List.getElem?_eq_some_iff.1 hy).1
        have h2 := (goodJ_of hy (hg k hk)).2
        show (y.getD 0 0).toNat ≤ k
        omega
      have hx : ∀ (k : Nat) (z : Nat × Nat), (psOf zss)[k]? = some z → (zss.map fun zs => List.zipWith Value.int [.i64, .u8] zs)[k]? = some [Value.int .i64 (z.1 : Int), Value.int .u8 (z.2 : Int)] := by
        intro k z hz
        unfold psOf at hz
        rw [List.getElem?_map] at hz
        obtain ⟨y, hy, rfl⟩ := Option.map_eq_some_iff.1 hz
        have hk : k < n := by rw [← hlen]; exact (List.getElem?_eq_some_iff.1 hy).1
        have h1 := goodJ_of hy (hg k hk)
        obtain ⟨h2, h3⟩ := wf2 k y hy
        rw [List.getElem?_map, hy]
        show some (List.zipWith Value.int [.i64, .u8] y) = some [Value.int .i64 ((y.getD 0 0).toNat : Int), Value.int .u8 ((y.getD 1 0).toNat : Int)]
        rw [Int.toNat_of_nonneg h1.1, Int.toNat_of_nonneg h3]
        conv => lhs; rw [h2]
        rfl
      obtain ⟨L, hL⟩ : ∃ L, joinO (psOf zss) n = L := ⟨_, rfl⟩
      have hpl : (psOf zss).length = n := by unfold psOf; rw [List.length_map, hlen]
      have c1 := fun (W : World) (hW : Below w.heap.size w W) => phrase_Join A n c _ (psOf zss) L W ((h.below hW).more hW.size) hx hpl hn hgood hL
      have c2 := fun (W : World) (hW : Below w.heap.size w W) => ref_Joined A n c _ (psOf zss) L W ((h.below hW).more hW.size) hx hpl hn hgood hL
      by_cases hL64 : 64 < L.length
      · refine join_err A n c 1 w (fun W hW => (c1 W hW).mono ?_) (fun W hW => (c2 W hW).mono ?_)
        · rintro e w' ⟨hb, ⟨_, rfl⟩ | ⟨h2, _⟩⟩
          · exact ⟨rfl, hb⟩
          · omega
        · rintro e w' ⟨hb, ⟨_, rfl⟩ | ⟨h2, _⟩⟩
          · exact ⟨rfl, hb⟩
          · omega
      · have d1 : ∀ W, Below w.heap.size w W → Calls Try.prog 12 #[.slice A n c] W fun e w' => Below W.heap.size W w' ∧ ∃ A n c, e = .returned (.tuple #[.slice A n c, .int .i64 0]) ∧ Reads w' w'.heap.size A n (vn .u8 L) := by
          intro W hW
          refine (c1 W hW).mono ?_
          rintro e w' ⟨hb, ⟨h2, _⟩ | ⟨_, h2⟩⟩
          · omega
          · exact ⟨hb, h2⟩
        have d2 : ∀ W, Below w.heap.size w W → Calls Try.prog 13 #[.slice A n c] W fun e w' => Below W.heap.size W w' ∧ ∃ A n c, e = .returned (.tuple #[.slice A n c, .int .i64 0]) ∧ Reads w' w'.heap.size A n (vn .u8 L) := by
          intro W hW
          refine (c2 W hW).mono ?_
          rintro e w' ⟨hb, ⟨h2, _⟩ | ⟨_, h2⟩⟩
          · omega
          · exact ⟨hb, h2⟩
        have hLm : L.length ≤ maxLen := by unfold maxLen; omega
        have HLM := Lib.hid hLm
        clear c1 c2 hL hgood hx hLm hlen wf wf2 hg hpl
        go_enter Try.func4, Try.ntmps4
        go_wp2_with (first
          | (go_at_call 12; refine (d1 _ (Below.refl _ _)).mono ?_; clear d1; rintro e w1 ⟨hb1, A1, n1, k1, rfl, hr1⟩)
          | (go_at_call 13; refine (d2 _ hb1).mono ?_; clear d2; rintro e w2 ⟨hb2, A2, n2, k2, rfl, hr2⟩)
          | (go_at_call 14; refine (ref_Bytes A1 A2 n1 n2 k1 k2 L L true _ (hr1.below hb2) hr2 (by rw [← hr1.nat_len]; exact HLM.out) (by unfold Hid; simp)).mono ?_; rintro e w3 ⟨rfl, m, rfl⟩))
        go_ret
        exact ⟨rfl, below_drewN (hb1.trans (hb2.mono hb1.size)) _⟩
    · have hz : ∃ y, zss[i]? = some y := ⟨_, List.getElem?_eq_getElem (by omega)⟩
      obtain ⟨y, hy⟩ := hz
      have hyb := goodJ_not hy hbad
      refine join_err A n c 2 w (fun W hW => ?_) (fun W hW => ?_)
      · refine phrase_Join_bad A n c i (y.getD 0 0) (y.getD 1 0) _ (psOf zss) W ((h.below hW).more hW.size) hi ?_ (by unfold Hid psOf; rw [List.length_map, hlen]) hn ?_ ?_ hyb
        · intro k z hk hz
          unfold psOf at hz
          rw [List.getElem?_map] at hz
          obtain ⟨y, hy, rfl⟩ := Option.map_eq_some_iff.1 hz
          have h1 := goodJ_of hy (hg k hk)
          obtain ⟨h2, h3⟩ := wf2 k y hy
          rw [List.getElem?_map, hy]
          show some (List.zipWith Value.int [.i64, .u8] y) = some [Value.int .i64 ((y.getD 0 0).toNat : Int), Value.int .u8 ((y.getD 1 0).toNat : Int)]
          rw [Int.toNat_of_nonneg h1.1, Int.toNat_of_nonneg h3]
          conv => lhs; rw [h2]
          rfl
        · intro k z hk hz
          unfold psOf at hz
          rw [List.getElem?_map] at hz
          obtain ⟨y, hy, rfl⟩ := Option.map_eq_some_iff.1 hz
          have h2 := (goodJ_of hy (hg k hk)).2
          show (y.getD 0 0).toNat ≤ k
          omega
        · unfold Hid
          obtain ⟨h2, _⟩ := wf2 i y hy
          rw [List.getElem?_map, hy]
          show some (List.zipWith Value.int [.i64, .u8] y) = _
          conv => lhs; rw [h2]
          rfl
      · refine ref_Joined_bad A n c i _ (zsOf zss) W ((h.below hW).more hW.size) ?_ (by unfold zsOf; rw [List.length_map, hlen]) hn hi ?_ ?_
        · intro k z hz
          unfold zsOf at hz
          rw [List.getElem?_map] at hz
          obtain ⟨y, hy, rfl⟩ := Option.map_eq_some_iff.1 hz
          obtain ⟨h2, h3⟩ := wf2 k y hy
          rw [List.getElem?_map, hy]
          show some (List.zipWith Value.int [.i64, .u8] y) = some [Value.int .i64 (y.getD 0 0), Value.int .u8 (y.getD 1 0)]
          conv => lhs; rw [h2]
          rfl
        · intro k hk
          have h1 := hg k hk
          obtain ⟨y', hy'⟩ : ∃ y, zss[k]? = some y := ⟨_, List.getElem?_eq_getElem (by omega)⟩
          have h1 := goodJ_of hy' h1
          unfold zsOf
          rw [List.getD_eq_getElem?_getD, List.getElem?_map, hy']
          exact h1
        · unfold zsOf
          rw [List.getD_eq_getElem?_getD, List.getElem?_map, hy]
          exact hyb
end Go.Proofs.Ytglcljlafioleaa

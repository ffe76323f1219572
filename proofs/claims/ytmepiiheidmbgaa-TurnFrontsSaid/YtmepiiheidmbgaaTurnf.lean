import Derived.Test.YtmepiiheidmbgaaTurn
import Derived.Test.YtmepiiheidmbgaaMapK
set_option linter.unusedVariables false
namespace Go.Proofs.Ytmepiiheidmbgaa
open Go.RowKit

/-- where b came last among the first j of t, and how many since are unlike -/
def lastAt (t : List Nat) (b j : Nat) (p : Int) : Prop := (p = -1 ∧ b ∉ t.take j) ∨ ∃ q : Nat, p = (q : Int) ∧ q < j ∧ t[q]? = some b ∧ b ∉ (t.take j).drop (q + 1)
theorem lastAt_zero (t : List Nat) (b : Nat) : lastAt t b 0 (-1) := .inl ⟨rfl, by simp⟩
theorem lastAt_hit {t : List Nat} {b j : Nat} {p : Int} (hx : t[j]? = some b) : lastAt t b (j + 1) (j : Int) := by
  refine .inr ⟨j, rfl, by omega, hx, ?_⟩
  rw [List.drop_of_length_le (by rw [List.length_take]; omega)]; simp
theorem lastAt_miss {t : List Nat} {b j y : Nat} {p : Int} (h : lastAt t b j p) (hx : t[j]? = some y) (hne : y ≠ b) : lastAt t b (j + 1) p := by
  have hj := (List.getElem?_eq_some_iff.1 hx).1
  rcases h with ⟨h1, h2⟩ | ⟨q, h1, h2, h3, h4⟩
  · exact .inl ⟨h1, by rw [take_next hx]; simp [h2, Ne.symm hne]⟩
  · refine .inr ⟨q, h1, by omega, h3, ?_⟩
    rw [take_next hx, List.drop_append_of_le_length (by rw [List.length_take]; omega)]
    simp [h4, Ne.symm hne]
theorem lastAt_bd {t : List Nat} {b j : Nat} {p : Int} (h : lastAt t b j p) : -1 ≤ p ∧ p < (j : Int) + 0 ∨ p = -1 := by
  rcases h with ⟨h1, _⟩ | ⟨q, h1, h2, _⟩
  · exact .inr h1
  · exact .inl ⟨by omega, by omega⟩
/-- what is seen from place s on, before place j -/
def segB (l : List Nat) (y : Int) : Bool := l.any fun z => decide ((z : Int) = y)
theorem segB_nat (l : List Nat) (y : Nat) : segB l (y : Int) = decide (y ∈ l) := by
  unfold segB
  rw [Bool.eq_iff_iff, List.any_eq_true, decide_eq_true_eq]
  constructor
  · rintro ⟨z, hz, e⟩
    have e := of_decide_eq_true e
    obtain rfl : z = y := by omega
    exact hz
  · intro h; exact ⟨y, h, by simp⟩
theorem segB_snoc (l : List Nat) (z : Nat) : (fun y : Int => if y = (z : Int) then true else segB l y) = segB (l ++ [z]) := by
  funext y
  unfold segB
  rw [List.any_append]
  by_cases h : y = (z : Int)
  · rw [if_pos h]; simp [h]
  · rw [if_neg h, List.any_cons, List.any_nil, decide_eq_false (fun e : (z : Int) = y => h e.symm), Bool.or_false, Bool.or_false]
def segF (t : List Nat) (s j : Nat) : List Nat := (t.take j).drop s
theorem segF_zero (t : List Nat) (s : Nat) : segF t s s = [] := by unfold segF; rw [List.drop_of_length_le (by rw [List.length_take]; omega)]
theorem segF_next {t : List Nat} {s j y : Nat} (hs : s ≤ j) (hx : t[j]? = some y) : segF t s (j + 1) = segF t s j ++ [y] := by
  unfold segF
  have hj := (List.getElem?_eq_some_iff.1 hx).1
  rw [take_next hx, List.drop_append_of_le_length (by rw [List.length_take]; omega)]
theorem dis_le (l : List Nat) : disM l ≤ 256 := by
  unfold disM; exact Nat.le_trans List.countP_le_length (by simp)
theorem low_le (l : List Nat) (b : Nat) : lowM l b ≤ b := by
  unfold lowM; exact Nat.le_trans List.countP_le_length (by simp)
theorem cnt_last {t : List Nat} {b i : Nat} {p : Int} {s : Nat} (h : lastAt t b i p) (hs : (s : Int) = p + 1) (hi : i ≤ t.length) (hb : b < 256) : cntM (t.take i) b = disM (segF t s i) + if p < 0 then lowM (segF t s i) b else 0 := by
  rcases h with ⟨h1, h2⟩ | ⟨q, h1, h2, h3, h4⟩
  · obtain rfl : s = 0 := by omega
    rw [if_pos (by omega), cnt_new (by omega) h2]; rfl
  · obtain rfl : s = q + 1 := by omega
    rw [if_neg (by omega), Nat.add_zero]
    exact cnt_seen (by rw [List.getElem?_take_of_lt h2]; exact h3) h4
theorem frL_take {t : List Nat} {k x : Nat} (hx : t[k]? = some x) : frL (t.take (k + 1)) = frL (t.take k) ++ [cntM (t.take k) x] := by rw [take_next hx, frL_snoc]
theorem frL_len (t : List Nat) : (frL t).length = t.length := by simp [frL]
set_option maxRecDepth 100000 in
set_option maxHeartbeats 1600000 in
theorem ref_Fronts (A : Option Addr) (n c : Nat) (t : List Nat) (w : World) (h : Reads w w.heap.size A n (vn .u8 t)) (hn : n ≤ 100) (ht : ∀ x ∈ t, x < 256) :
    Calls Try.prog 33 #[.slice A n c] w (RetS w 3 (vn .i64 (frL t))) := by
  have H := Lib.hid h.nat_len
  have HT := Lib.hid ht
  clear ht
  go_enter Try.func33, Try.ntmps33
  go_wp2
  go_loopw [3, 14] (fun v i wr => ∃ k : Nat, k ≤ n ∧ i = .int .i64 k ∧ Own wr w.heap.size 3 v (vn .i64 (frL (t.take k))) ∧ Below w.heap.size w wr) (fun _ i _ => n - (intOf i).toNat)
  case atStart => exact ⟨0, by omega, rfl, Own.nil _ _ _, Below.refl _ _⟩
  case round =>
    obtain ⟨k, hk, rfl, hown, hbel⟩ := hrel
    by_cases hlt : k < n
    · obtain ⟨ad, b, rfl, hb, hx, hc0⟩ := h.nat_at hlt
      have hb256 := HT.out b (mem_at hx)
      have hall := hbel
      have hcells : ∀ W : World, Below w.heap.size w W → ∀ (j y : Nat), t[j]? = some y → W.cell? (ad.add j) = some (.int .u8 (y : Int)) := by
        intro W hW j y hy
        obtain ⟨ad', e, hb', hcc⟩ := h.cells (by omega)
        injection e with e
        subst e
        exact (hW.cell (by rw [block_of_add]; exact hb')).trans (hcc j _ (by rw [List.getElem?_map, hy]; rfl))
      have hc : wr.cell? (ad.add k) = some (.int .u8 (b : Int)) := hcells wr hbel k b hx
      have HC := Lib.hid hcells
      have HX := Lib.hid hx
      have i0 : (0 : Int) ≤ (k : Int) := by omega
      have i1 : (k : Int) < (n : Int) := by omega
      clear hcells hx hc0 hall
      go_wp2
      go_loop [6, 7] (fun p j => ∃ (j0 : Nat) (p0 : Int), j0 ≤ k ∧ j = .int .i64 j0 ∧ p = .int .i64 p0 ∧ Hid (lastAt t b j0 p0)) (fun _ j => k - (intOf j).toNat)
      case atStart => exact ⟨0, -1, by omega, rfl, rfl, lastAt_zero t b⟩
      case round =>
        obtain ⟨j0, p0, hj0, rfl, rfl, hla⟩ := hrel
        by_cases hjk : j0 < k
        · obtain ⟨y, hy⟩ : ∃ y, t[j0]? = some y := ⟨t[j0]'(by rw [H.out]; omega), List.getElem?_eq_getElem _⟩
          have hcy := HC.out wr hbel j0 y hy
          have j1 : (j0 : Int) < (k : Int) := by omega
          have j2 : (0 : Int) ≤ (j0 : Int) := by omega
          have j3 : (j0 : Int) < (n : Int) := by omega
          by_cases hyb : y = b
          · subst hyb
            have HL : Hid (lastAt t y (j0 + 1) (j0 : Int)) := lastAt_hit (p := p0) hy
            clear hy hla
            go_wp2
            go_round
            case rel => exact ⟨j0 + 1, (j0 : Int), by omega, by go_num, rfl, HL⟩
            case measure => simp [intOf]; omega
          · have HL : Hid (lastAt t b (j0 + 1) p0) := lastAt_miss hla.out hy hyb
            have hnq : ((y : Int) == (b : Int)) = false := by simp; omega
            have hnq2 : ¬ (y : Int) = (b : Int) := by omega
            clear hy hla
            go_wp2
            go_round
            case rel => exact ⟨j0 + 1, p0, by omega, by go_num, rfl, HL⟩
            case measure => simp [intOf]; omega
        · obtain rfl : j0 = k := by omega
          have j1 : ¬ (j0 : Int) < (j0 : Int) := by omega
          have hpb : -1 ≤ p0 ∧ p0 < (n : Int) := by
            rcases lastAt_bd hla.out with h1 | h1
            · omega
            · omega
          obtain ⟨s, hs⟩ : ∃ s : Nat, (s : Int) = p0 + 1 := ⟨(p0 + 1).toNat, by omega⟩
          have hsj : s ≤ j0 := by
            rcases lastAt_bd hla.out with h1 | h1
            · omega
            · omega
          have HCNT : Hid (cntM (t.take j0) b = disM (segF t s j0) + if p0 < 0 then lowM (segF t s j0) b else 0) := cnt_last hla.out hs (by rw [H.out]; omega) hb256
          have hs2 : p0 + 1 = (s : Int) := hs.symm
          have hmk := @run_makeMap Try.prog
          have hM0 := MapK.made wr Try.prog .u8 5 4
          have hbM : Below w.heap.size w (wr.alloc (.map #[] 0)) := hbel.alloc hbel.size _
          have hownM := hown.alloc (.map #[] 0)
          have HV := Lib.hid (show ∀ z, Value.ownBlock u3 = some z → z < wr.heap.size from fun z hz => (Own.lt hown z hz).2)
          clear hs hla
          have hgM : wr.grownBy (wr.alloc (.map #[] 0)) (some wr.heap.size) := World.grownBy_alloc wr _ _
          have hj0n : j0 < n := hlt
          go_wp2
          obtain ⟨wo, hwo⟩ : ∃ x, x = wr := ⟨_, rfl⟩
          subst hwo
          go_loopw [9, 10] (fun nv jv wi => ∃ (j1 q d : Nat), s ≤ j1 ∧ j1 ≤ j0 ∧ jv = .int .i64 j1 ∧ nv = .int .i64 (d : Int) ∧ Hid (d = disM (segF t s j1)) ∧ q ≤ j1 ∧ MapK Try.prog .u8 5 4 wi wo.heap.size q (segB (segF t s j1)) ∧ wo.grownBy wi (some wo.heap.size)) (fun _ jv _ => j0 - (intOf jv).toNat)
          case atStart => exact ⟨s, 0, 0, by omega, hsj, rfl, rfl, by unfold Hid; rw [segF_zero, dis_nil], by omega, (by rw [segF_zero]; exact hM0), hgM⟩
          case round =>
            clear hmk hM0 hbM hownM hgM
            obtain ⟨j1', q, d, hsj1, hj1k, rfl, rfl, hd, hq, hmap, hgi⟩ := hrel
            have hbi : Below w.heap.size w wr := hbel.trans (grown_below hgi hbel.size (fun z e => by cases e; exact hbel.size))
            have hd256 : d ≤ 256 := by rw [hd.out]; exact dis_le _
            by_cases hlt1 : j1' < j0
            · obtain ⟨y, hy⟩ : ∃ y, t[j1']? = some y := ⟨t[j1']'(by rw [H.out]; omega), List.getElem?_eq_getElem _⟩
              have hy256 := HT.out y (mem_at hy)
              have hcy := HC.out wr hbi j1' y hy
              have hlook := hmap.look (t := 96) Try.underlying96 Try.underlying5 Try.underlying4 (Try.zeroValue4 _) (y : Int) (wf_u8 y hy256)
              rw [segB_nat] at hlook
              have k1 : (j1' : Int) < (j0 : Int) := by omega
              have k2 : (0 : Int) ≤ (j1' : Int) := by omega
              have k3 : (j1' : Int) < (n : Int) := by omega
              have HN1 := Lib.hid (segF_next hsj1 hy)
              have HD1 : Hid (disM (segF t s (j1' + 1)) = d + if y ∈ segF t s j1' then 0 else 1) := by unfold Hid; rw [HN1.out, dis_snoc hy256, ← hd.out]
              by_cases hin : y ∈ segF t s j1'
              · rw [decide_eq_true hin] at hlook
                have HD2 : Hid (d = disM (segF t s (j1' + 1))) := by unfold Hid; rw [HD1.out, if_pos hin]; rfl
                have HM2 : segB (segF t s j1') = segB (segF t s (j1' + 1)) := by
                  rw [HN1.out, ← segB_snoc]
                  funext z
                  by_cases hz : z = (y : Int)
                  · rw [if_pos hz, hz, segB_nat, decide_eq_true hin]
                  · rw [if_neg hz]
                rw [HM2] at hmap
                clear hy HM2 hin
                go_wp2
                go_roundw
                case rel => exact ⟨j1' + 1, q, d, by omega, by omega, by go_num, rfl, HD2, by omega, hmap, hgi⟩
                case measure => simp [intOf]; omega
              · rw [decide_eq_false hin] at hlook
                have HD2 : Hid (d + 1 = disM (segF t s (j1' + 1))) := by unfold Hid; rw [HD1.out, if_neg hin]
                obtain ⟨w6, hput, hmap6, hg6⟩ := hmap.put (t := 96) Try.underlying96 Try.underlying5 Try.underlying4 (by unfold maxLen; omega) (y : Int) (wf_u8 y hy256) true
                rw [segB_snoc, ← HN1.out] at hmap6
                clear hy hin
                go_wp2
                go_roundw
                case rel => exact ⟨j1' + 1, q + 1, d + 1, by omega, by omega, by go_num, by go_num, HD2, by omega, hmap6, hgi.trans hg6⟩
                case measure => simp [intOf]; omega
            · obtain rfl : j1' = j0 := by omega
              have k1 : ¬ (j1' : Int) < (j1' : Int) := by omega
              have hne0 : u3.ownBlock ≠ some wo.heap.size := fun e => by have := HV.out _ e; omega
              have hownI := hown.kept hgi (.inr hne0)
              have hlt3 : (t.take j1').length = j1' := by rw [List.length_take, H.out]; omega
              have hnew : Hid (vn .i64 (frL (t.take j1')) ++ [Value.int .i64 ((cntM (t.take j1') b : Nat) : Int)] = vn .i64 (frL (t.take (j1' + 1)))) := by
                unfold Hid vn; rw [frL_take HX.out, List.map_append]; rfl
              have hvl : Hid ((vn .i64 (frL (t.take j1'))).length = j1') := by unfold Hid; rw [List.length_map, frL_len, hlt3]
              clear hlt3
              by_cases hp0 : p0 < 0
              · have HC2 : Hid (cntM (t.take j1') b = d + lowM (segF t s j1') b) := by unfold Hid; rw [HCNT.out, if_pos hp0, ← hd.out]
                go_wp2
                go_loop [9, 11] (fun nv xv => ∃ (x e : Nat), x ≤ b ∧ xv = .int .i64 x ∧ nv = .int .i64 (e : Int) ∧ Hid (e = d + lowM (segF t s j1') x)) (fun _ xv => b - (intOf xv).toNat)
                case atStart => exact ⟨0, d, by omega, rfl, rfl, by unfold Hid lowM; simp⟩
                case round =>
                  obtain ⟨x, e, hxb, rfl, rfl, he⟩ := hrel
                  have heb : e ≤ 1000 := by rw [he.out]; have := low_le (segF t s j1') x; omega
                  by_cases hx1 : x < b
                  · have hlook := hmap.look (t := 96) Try.underlying96 Try.underlying5 Try.underlying4 (Try.zeroValue4 _) (x : Int) (wf_u8 x (by omega))
                    rw [segB_nat] at hlook
                    have m1 : (x : Int) < (b : Int) := by omega
                    have m2 : (x : Int) % 256 = (x : Int) := by omega
                    by_cases hin : x ∈ segF t s j1'
                    · rw [decide_eq_true hin] at hlook
                      have HE : Hid (e = d + lowM (segF t s j1') (x + 1)) := by unfold Hid; rw [low_next, if_pos hin, he.out]; omega
                      clear hin
                      go_wp2
                      go_round
                      case rel => exact ⟨x + 1, e, by omega, by go_num, rfl, HE⟩
                      case measure => simp [intOf]; omega
                    · rw [decide_eq_false hin] at hlook
                      have HE : Hid (e + 1 = d + lowM (segF t s j1') (x + 1)) := by unfold Hid; rw [low_next, if_neg hin, he.out]; omega
                      clear hin
                      go_wp2
                      go_round
                      case rel => exact ⟨x + 1, e + 1, by omega, by go_num, by go_num, HE⟩
                      case measure => simp [intOf]; omega
                  · obtain rfl : x = b := by omega
                    have m1 : ¬ (x : Int) < (x : Int) := by omega
                    have HE : Hid (e = cntM (t.take j1') x) := by unfold Hid; rw [HC2.out, he.out]
                    rw [← HE.out] at hnew
                    go_wp2_with (at_builtin; refine app1 el_intT rfl _ _ rfl rfl hownI _ _ rfl rfl (by rw [hvl.out]; unfold maxLen; omega) (by rw [hvl.out]; omega) hbi.size ?_; intro v7 w7 ho7 hb7 hg7 hat7)
                    rw [hnew.out] at ho7
                    go_roundw
                    case rel => exact ⟨j1' + 1, by omega, by go_num, ho7, hbi.trans hb7⟩
                    case measure => simp [intOf]; omega
              · have HC2 : Hid (d = cntM (t.take j1') b) := by unfold Hid; rw [HCNT.out, if_neg hp0, ← hd.out]; rfl
                rw [← HC2.out] at hnew
                go_wp2_with (at_builtin; refine app1 el_intT rfl _ _ rfl rfl hownI _ _ rfl rfl (by rw [hvl.out]; unfold maxLen; omega) (by rw [hvl.out]; omega) hbi.size ?_; intro v7 w7 ho7 hb7 hg7 hat7)
                rw [hnew.out] at ho7
                go_roundw
                case rel => exact ⟨j1' + 1, by omega, by go_num, ho7, hbi.trans hb7⟩
                case measure => simp [intOf]; omega
    · obtain rfl : k = n := by omega
      rw [List.take_of_length_le (Nat.le_of_eq H.out)] at hown
      obtain ⟨A2, c2, e⟩ := hown.form
      rw [List.length_map, frL_len, H.out] at e
      subst e
      go_wp2
      go_ret
      exact ⟨A2, k, c2, rfl, hown, hbel⟩
end Go.Proofs.Ytmepiiheidmbgaa

import Derived.Test.YtmepiiheidmbgaaRound
set_option linter.unusedVariables false
namespace Go.Proofs.Ytmepiiheidmbgaa
open Go.RowKit

theorem one_vbR (l : List Bool) : ∀ u ∈ vb l, u.oneCell' = true := by
  intro u hu; obtain ⟨b, _, rfl⟩ := List.mem_map.1 hu; rfl
theorem wf_small (a : Nat) (h : a < 1099511627776) : (Lit.int .i64 (a : Int)).wf = true := by
  have h1 : IntKind.i64.min = -9223372036854775808 := rfl
  have h2 : IntKind.i64.max = 9223372036854775807 := rfl
  simp [Lit.wf]; omega
theorem endR_set (l : List Bool) (n p : Nat) (b : Bool) (hp : (l.drop (l.length + 1 - n)).length = p) : (vb (endR l n true)).set p (.bool b) = vb (endR l n b) := by
  unfold endR vb
  rw [List.map_append, List.map_append, List.set_append_right _ _ (by simp [← hp])]
  congr 1
  simp [← hp]
theorem readsDrop {w : World} {B n k : Nat} {ad : Addr} {l : List Bool} (h : Reads w B (some ad) n (vb l)) (hk : k ≤ n) (A : Option Addr) (hA : 0 < n - k → A = some (ad.add k)) : Reads w B A (n - k) (vb (l.drop k)) := by
  have hl := h.bool_len
  refine ⟨by simp [hl], fun hm => ?_⟩
  rw [hA hm]
  obtain ⟨ad', e, hb, hc⟩ := h.cells (by omega)
  injection e with e
  subst e
  refine ⟨_, rfl, by rw [block_of_add]; exact hb, fun j u hu => ?_⟩
  rw [add_of_add]
  apply hc
  rw [List.getElem?_map, List.getElem?_drop] at hu
  rw [List.getElem?_map]; exact hu
def lenV : Value → Nat
  | .slice _ n _ => n
  | _ => 0
set_option maxHeartbeats 1600000 in
theorem gray_Round (n : Nat) (w : World) (h1 : 1 ≤ n) (h6 : n ≤ 6) :
    Calls Try.prog 21 #[.int .i64 (n : Int)] w (fun e w' => ∃ A' n' c', e = .returned (.tuple #[.slice A' n' c', .int .i64 0]) ∧ Own w' w.heap.size 4 (.slice A' n' c') (vb (rdR n (2 ^ n - n))) ∧ Below w.heap.size w w') := by
  have hlr : Hid ((List.replicate n (Value.bool false)).length = n) := List.length_replicate
  obtain ⟨M, hM⟩ : ∃ M, M = 2 ^ n := ⟨_, rfl⟩
  have hM64 : M ≤ 64 := by
    have := Nat.pow_le_pow_right (n := 2) (by omega) h6
    omega
  have hMn : n ≤ M := by have := Nat.lt_two_pow_self (n := n); omega
  have hMi : (2 : Int) ^ n = (M : Int) := by rw [hM]; exact (Int.natCast_pow 2 n).symm
  rw [← hM]
  clear hM
  go_enter Try.func21, Try.ntmps21
  go_wp2_with (at_make; refine mkN el_clone_bools rfl _ _ rfl w.heap.size n rfl rfl rfl rfl (by omega) (by unfold maxLen; omega) (Nat.le_refl _) ?_; intro w1 ho1 hb1 hs1; have hmk := @run_makeMap Try.prog; obtain ⟨w2, hput, hmap, hg2⟩ := (MapB.made w1 Try.prog 3 4).put (t := 85) Try.underlying85 Try.underlying3 Try.underlying4 (by unfold maxLen; omega) 0 (by rfl) true)
  have ho2 : Own w2 w.heap.size 4 (.slice (some ⟨w.heap.size, 0, none⟩) n n) (vb (rdR n 0)) := by
    have := (ho1.alloc (.map #[] 0)).kept hg2 (.inr (by simp [Value.ownBlock]; omega))
    simpa [rdR, vb] using this
  have hne2 : (Value.slice (some ⟨w.heap.size, 0, none⟩) n n).ownBlock ≠ some w1.heap.size := by simp [Value.ownBlock]; omega
  have hbA : Below w.heap.size w (w1.alloc (.map #[] 0)) := hb1.alloc hb1.size _
  have hb2 : Below w.heap.size w w2 := hbA.trans (grown_below hg2 hbA.size (fun k e => by injection e with e; omega))
  have hB2 : w1.heap.size < w2.heap.size := hmap.lt
  have hmap2 : MapB Try.prog 3 4 w2 w1.heap.size (0 + 1) (seenR (rdR n 0) n) := by
    have e : (fun y : Int => if y = 0 then true else false) = seenR (rdR n 0) n := funext fun y => seenR_start n y
    rw [← e]; exact hmap
  clear hput hmap hg2 hmk ho1 hbA hb1
  generalize w1.heap.size = mb at *
  go_loopw [4] (fun v wr => ∃ k : Nat, k ≤ M - n ∧ Own wr w.heap.size 4 v (vb (rdR n k)) ∧ v.ownBlock ≠ some mb ∧ Below w.heap.size w wr ∧ mb < wr.heap.size ∧ MapB Try.prog 3 4 wr mb (k + 1) (seenR (rdR n k) n)) (fun v _ => M - lenV v)
  case atStart => exact ⟨0, by omega, ho2, hne2, hb2, hB2, hmap2⟩
  case round =>
    clear ho2 hne2 hb2 hB2 hmap2
    obtain ⟨k, hk, hown, hne, hbel, hB, hmap⟩ := hrel
    obtain ⟨A1, c1, e⟩ := hown.form
    rw [List.length_map, rdR_len] at e
    obtain ⟨L, hL⟩ : ∃ L, L = n + k := ⟨_, rfl⟩
    rw [← hL] at e
    subst e
    by_cases hlt : L < M
    · have hLM : (L : Int) < (M : Int) := by omega
      have hrl := Lib.hid (rdR_len n k)
      have hnl : n ≤ (rdR n k).length := by rw [rdR_len]; omega
      have hhit := Lib.hid (seenR_hit h1 hnl)
      obtain ⟨hq, hhq⟩ : ∃ q, hitR (rdR n k) n = q := ⟨_, rfl⟩
      have HN : Hid (rdR n (k + 1) = rdR n k ++ [!hq]) := by unfold Hid; rw [rdR, hhq]
      have hnx : ∀ a : Int, (if a = (numR (endR (rdR n k) n (!hq)) : Int) then true else seenR (rdR n k) n a) = seenR (rdR n (k + 1)) n a := fun a => by rw [HN.out]; exact seenR_next (!hq) h1 hnl a
      have HNX := Lib.hid hnx
      have he1 := endR_len (n := n) true h1 hnl
      have he2 := endR_len (n := n) (!hq) h1 hnl
      have hd : ((rdR n k).drop ((rdR n k).length + 1 - n)).length = n - 1 := by simp [rdR_len]; omega
      rw [hhq] at hhit
      clear hhq hnx
      obtain ⟨p, hp⟩ : ∃ p, p + 1 = n := ⟨n - 1, by omega⟩
      have hset := Lib.hid (endR_set (rdR n k) n p (!hq) (by omega))
      obtain ⟨s, hs⟩ : ∃ s, s + n = L + 1 := ⟨L + 1 - n, by omega⟩
      have es : (rdR n k).length + 1 - n = s := by rw [rdR_len]; omega
      have eE1 : Hid (vb ((rdR n k).drop s) ++ [Value.bool true] = vb (endR (rdR n k) n true)) := by unfold Hid endR vb; rw [es]; simp
      rw [es] at hd
      have eL : (L : Int) - (n : Int) + 1 = (s : Int) := by omega
      have ep : (n : Int) - 1 = (p : Int) := by omega
      have eLs : L - s = p := by omega
      obtain ⟨q1, hq1⟩ : ∃ q, numR (endR (rdR n k) n true) = q := ⟨_, rfl⟩
      obtain ⟨q2, hq2⟩ : ∃ q, numR (endR (rdR n k) n (!hq)) = q := ⟨_, rfl⟩
      have hq1b : q1 < 64 := by have := numR_lt (endR (rdR n k) n true); rw [he1, hq1] at this; have := Nat.pow_le_pow_right (n := 2) (by omega) h6; omega
      have hq2b : q2 < 64 := by have := numR_lt (endR (rdR n k) n (!hq)); rw [he2, hq2] at this; have := Nat.pow_le_pow_right (n := 2) (by omega) h6; omega
      rw [hq1] at hhit
      rw [hq2] at HNX
      obtain ⟨ad, rfl, _⟩ := hown.reads.cells (by omega)
      have hcap := hown.capLe'
      have hsL : s ≤ L := by omega
      have ccl := fun (A' : Option Addr) (c' : Nat) (hA : 0 < L - s → A' = some (ad.add s)) => clone_bools A' (L - s) c' (vb ((rdR n k).drop s)) wr (readsDrop hown.reads hsL A' hA) (one_vbR _) (by omega)
      have i1 : (s : Int) ≤ (L : Int) := by omega
      have HQ1 := Lib.hid hq1
      have HQ2 := Lib.hid hq2
      have HE1 := Lib.hid he1
      have HE2 := Lib.hid he2
      have HD : Hid ((vb ((rdR n k).drop s)).length = p) := by unfold Hid; rw [List.length_map]; omega
      have HP := Lib.hid hp
      have hpn : p < n := by omega
      have hp5 : p ≤ 5 := by omega
      have HLL := Lib.hid hL
      clear hs hd es hq1 hq2 he1 he2 eLs hp hL
      have HRL : Hid ((vb (rdR n k)).length = L) := by unfold Hid; rw [List.length_map, hrl.out, HLL.out]
      have hk63 : k ≤ 64 := by omega
      by_cases hsc : s < c1
      · have hsc1 : ¬ c1 = s := by omega
        have hsc2 : ¬ s = c1 := by omega
        have ccl := ccl (some (ad.add s)) (c1 - s) (fun _ => rfl)
        go_wp2_with (first
          | (go_at_call 58; refine ccl.mono ?_; clear ccl; rintro e w3 ⟨A3, n3, c3, rfl, ho3, hb3⟩; have hsz3 := hb3.size)
          | (at_builtin; refine app1 el_clone_bools rfl _ _ rfl rfl ho3 _ _ rfl rfl (by rw [HD.out]; unfold maxLen; omega) (by rw [HD.out]; omega) hsz3 ?_; clear ho3; intro v4 w4 ho4 hb4 _ _; rw [eE1.out] at ho4; have hb04 := hb3.trans hb4; have hmap4 := hmap.keep (hb04.block _ hB); obtain ⟨A4, c4, e4⟩ := ho4.form; rw [List.length_map, HE1.out] at e4; subst e4; obtain ⟨ad4, rfl, _⟩ := ho4.reads.cells (by omega); have cn1 := gray_number (some ad4) n c4 (endR (rdR n k) n true) q1 w4 ho4.reads (by omega) HQ1; have hlook := hmap4.look (t := 85) Try.underlying85 Try.underlying3 Try.underlying4 (Try.zeroValue4 _) (q1 : Int) (wf_small q1 (by omega)); rw [hhit.out] at hlook; have hset4 := ho4.set p (.bool (!hq)); rw [hset.out] at hset4; have hfz4 := ho4.frozenAt p; obtain ⟨ad5, x4, e5, _, _, hc4⟩ := ho4.reads.bool_at hpn; injection e5 with e5; subst e5; have hb05 := hb04.trans (ho4.setBelow (Nat.le_refl _) p (.bool (!hq))); have hmap5 := hmap.keep (hb05.block _ hB); have hown5 := hown.below hb05 (Nat.le_refl _); have cn2 := gray_number (some ad4) n c4 (endR (rdR n k) n (!hq)) q2 _ hset4.reads (by omega) HQ2; obtain ⟨w6, hput, hmap6, hg6⟩ := hmap5.put (t := 85) Try.underlying85 Try.underlying3 Try.underlying4 (by unfold maxLen; omega) (q2 : Int) (wf_small q2 (by omega)) true; have hown6 := hown5.kept hg6 (.inr hne); have hbel5 := hbel.trans (hb05.mono hbel.size); have hbel6 := hbel5.trans (grown_below hg6 hbel5.size (fun k e => by injection e with e; omega)); have hB6 := hmap6.lt)
          | (go_at_call 59; refine cn1.mono ?_; clear cn1; rintro e w' ⟨rfl, rfl⟩)
          | (go_at_call 59; refine cn2.mono ?_; clear cn2; rintro e w' ⟨rfl, rfl⟩)
          | (at_builtin; refine app1 el_clone_bools rfl _ _ rfl rfl hown6 _ _ rfl rfl (by rw [HRL.out]; unfold maxLen; omega) (by rw [HRL.out]; omega) hbel6.size ?_; intro v7 w7 ho7 hb7 hg7 hat7))
        have hN7 : vb (rdR n k) ++ [Value.bool (!hq)] = vb (rdR n (k + 1)) := by rw [HN.out]; unfold vb; simp
        rw [hN7] at ho7
        obtain ⟨A7, c7, e7⟩ := ho7.form
        rw [List.length_map, rdR_len] at e7
        go_roundw
        case rel =>
          refine ⟨k + 1, by have := HLL.out; omega, ho7, ?_, hbel6.trans hb7, Nat.lt_of_lt_of_le hB6 hb7.size, ?_⟩
          · rcases hat7 with h7 | h7
            · rw [h7]; exact hne
            · rw [h7]; intro e; injection e with e; omega
          · have hm := hmap6.keep (hg7.block mb hB6 (fun e => hne e.symm))
            have ef : (fun y : Int => if y = (q2 : Int) then true else seenR (rdR n k) n y) = seenR (rdR n (k + 1)) n := funext HNX.out
            rw [← ef]; exact hm
        case measure => rw [e7]; simp only [lenV]; have := HLL.out; omega
      · obtain rfl : c1 = s := by omega
        obtain rfl : L = c1 := by omega
        have ccl := ccl (some ad) 0 (fun h => absurd h (by omega))
        rw [Nat.sub_self] at ccl
        go_wp2_with (first
          | (go_at_call 58; refine ccl.mono ?_; clear ccl; rintro e w3 ⟨A3, n3, c3, rfl, ho3, hb3⟩; have hsz3 := hb3.size)
          | (at_builtin; refine app1 el_clone_bools rfl _ _ rfl rfl ho3 _ _ rfl rfl (by rw [HD.out]; unfold maxLen; omega) (by rw [HD.out]; omega) hsz3 ?_; clear ho3; intro v4 w4 ho4 hb4 _ _; rw [eE1.out] at ho4; have hb04 := hb3.trans hb4; have hmap4 := hmap.keep (hb04.block _ hB); obtain ⟨A4, c4, e4⟩ := ho4.form; rw [List.length_map, HE1.out] at e4; subst e4; obtain ⟨ad4, rfl, _⟩ := ho4.reads.cells (by omega); have cn1 := gray_number (some ad4) n c4 (endR (rdR n k) n true) q1 w4 ho4.reads (by omega) HQ1; have hlook := hmap4.look (t := 85) Try.underlying85 Try.underlying3 Try.underlying4 (Try.zeroValue4 _) (q1 : Int) (wf_small q1 (by omega)); rw [hhit.out] at hlook; have hset4 := ho4.set p (.bool (!hq)); rw [hset.out] at hset4; have hfz4 := ho4.frozenAt p; obtain ⟨ad5, x4, e5, _, _, hc4⟩ := ho4.reads.bool_at hpn; injection e5 with e5; subst e5; have hb05 := hb04.trans (ho4.setBelow (Nat.le_refl _) p (.bool (!hq))); have hmap5 := hmap.keep (hb05.block _ hB); have hown5 := hown.below hb05 (Nat.le_refl _); have cn2 := gray_number (some ad4) n c4 (endR (rdR n k) n (!hq)) q2 _ hset4.reads (by omega) HQ2; obtain ⟨w6, hput, hmap6, hg6⟩ := hmap5.put (t := 85) Try.underlying85 Try.underlying3 Try.underlying4 (by unfold maxLen; omega) (q2 : Int) (wf_small q2 (by omega)) true; have hown6 := hown5.kept hg6 (.inr hne); have hbel5 := hbel.trans (hb05.mono hbel.size); have hbel6 := hbel5.trans (grown_below hg6 hbel5.size (fun k e => by injection e with e; omega)); have hB6 := hmap6.lt)
          | (go_at_call 59; refine cn1.mono ?_; clear cn1; rintro e w' ⟨rfl, rfl⟩)
          | (go_at_call 59; refine cn2.mono ?_; clear cn2; rintro e w' ⟨rfl, rfl⟩)
          | (at_builtin; refine app1 el_clone_bools rfl _ _ rfl rfl hown6 _ _ rfl rfl (by rw [HRL.out]; unfold maxLen; omega) (by rw [HRL.out]; omega) hbel6.size ?_; intro v7 w7 ho7 hb7 hg7 hat7))
        have hN7 : vb (rdR n k) ++ [Value.bool (!hq)] = vb (rdR n (k + 1)) := by rw [HN.out]; unfold vb; simp
        rw [hN7] at ho7
        obtain ⟨A7, c7, e7⟩ := ho7.form
        rw [List.length_map, rdR_len] at e7
        go_roundw
        case rel =>
          refine ⟨k + 1, by have := HLL.out; omega, ho7, ?_, hbel6.trans hb7, Nat.lt_of_lt_of_le hB6 hb7.size, ?_⟩
          · rcases hat7 with h7 | h7
            · rw [h7]; exact hne
            · rw [h7]; intro e; injection e with e; omega
          · have hm := hmap6.keep (hg7.block mb hB6 (fun e => hne e.symm))
            have ef : (fun y : Int => if y = (q2 : Int) then true else seenR (rdR n k) n y) = seenR (rdR n (k + 1)) n := funext HNX.out
            rw [← ef]; exact hm
        case measure => rw [e7]; simp only [lenV]; have := HLL.out; omega
    · have hLM : ¬ (L : Int) < (M : Int) := by omega
      obtain rfl : k = M - n := by omega
      obtain rfl : L = M := by omega
      clear hL hmap
      go_wp2
      go_ret2
      exact ⟨A1, L, c1, rfl, hown, hbel⟩
end Go.Proofs.Ytmepiiheidmbgaa

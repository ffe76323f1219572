import Derived.Test.YtmepiiheidmbgaaStuff
import Derived.Test.YtmepiiheidmbgaaPrefix
import Derived.Test.YtmepiiheidmbgaaConcatBools
import Derived.Test.YtmepiiheidmbgaaFramesIdx
set_option linter.unusedVariables false
namespace Go.Proofs.Ytmepiiheidmbgaa
open Go.RowKit

theorem one_vbF (l : List Bool) : ∀ u ∈ vb l, u.oneCell' = true := by
  intro u hu; obtain ⟨b, _, rfl⟩ := List.mem_map.1 hu; rfl
theorem Reads2.moreF {w : World} {B B' : Nat} {A : Option Addr} {n : Nat} {ls : List (List Bool)} (h : Reads2 w B A n ls) (hB : B ≤ B') : Reads2 w B' A n ls := by
  obtain ⟨vs, hv, hl, he⟩ := h
  exact ⟨vs, hv.more hB, hl, fun k l hk => by obtain ⟨A', n', c', e, h2, h3⟩ := he k l hk; exact ⟨A', n', c', e, h2.more hB, h3⟩⟩
def flagL : List Bool := [false, true, true, true, true, true, true, false]
def frStep (acc l : List Bool) : List Bool := acc ++ (stF l).1 ++ flagL
def frF (ls : List (List Bool)) : List Bool := ls.foldl frStep flagL
theorem frF_next {ls : List (List Bool)} {k : Nat} {l : List Bool} (h : ls[k]? = some l) : frF (ls.take (k + 1)) = frStep (frF (ls.take k)) l := by
  rw [take_next h]; unfold frF; rw [List.foldl_append]; rfl
theorem frStep_vb (acc l : List Bool) : vb acc ++ vb (stF l).1 ++ vb flagL = vb (frStep acc l) := by
  unfold frStep vb; simp only [List.map_append]
theorem frStep_len (acc l : List Bool) (h : l.length ≤ 64) : (frStep acc l).length ≤ acc.length + 136 := by
  have := stF_len l
  rw [List.length_map] at this
  unfold frStep flagL
  simp only [List.length_append, List.length_cons, List.length_nil]
  omega
def longF (l : List Bool) : Bool := decide (64 < l.length)
theorem longF_no {l : List Bool} (h : longF l = false) : l.length ≤ 64 := by simp [longF] at h; omega

set_option maxHeartbeats 400000 in
theorem frames_1 (A : Option Addr) (n c : Nat) (w : World) :
    Calls Try.prog 49 #[.slice A n c] w (Ret w (.bool (decide ((64 : Int) < n)))) := by
  go_enter Try.func49, Try.ntmps49
  go_wp2
  go_ret
  exact ⟨rfl, rfl⟩
theorem contains_fr (A : Option Addr) (n c : Nat) (ls : List (List Bool)) (q : Bool) (w : World) (h : Reads2 w w.heap.size A n ls) (hn : n ≤ maxLen) (hq : Hid (ls.any longF = q)) :
    Calls Try.prog 48 #[.slice A n c, .func (.func 49) #[] #[]] w (RetQ w (.bool q)) := by
  obtain ⟨vs, hv, hl, he⟩ := h
  have hlen : ls.length = n := by rw [← hl]; exact hv.len
  have hp : ∀ k u m, vs[k]? = some u → Calls Try.prog 49 #[u] (w.drewN m) (RetQ (w.drewN m) (.bool (longF (ls.getD k [])))) := by
    intro k u m hu
    have hk : k < ls.length := by rw [← hl]; exact (List.getElem?_eq_some_iff.1 hu).1
    obtain ⟨A', n', c', e, h2, _⟩ := he k _ (List.getElem?_eq_getElem hk)
    rw [hu] at e
    injection e with e
    subst e
    refine (frames_1 A' n' c' (w.drewN m)).mono fun e w' ⟨h1, h2'⟩ => ⟨?_, 0, by rw [← h2']; rfl⟩
    rw [h1]
    refine ret_b ?_
    have : (ls.getD k []).length = n' := by simp only [List.getD, List.getElem?_eq_getElem hk, Option.getD_some]; exact h2.bool_len
    unfold longF; rw [this]; congr 1; apply propext; omega
  have ha : anyTo (fun k => longF (ls.getD k [])) n = ls.any longF := by
    rw [← hlen]; exact anyTo_list ls longF _ fun k x hx => by simp [List.getD, hx]
  have cc := contains_frames A n c vs (fun k => longF (ls.getD k [])) (ls.any longF) w hv hn hp ha
  rw [hq.out] at cc
  exact cc
set_option maxHeartbeats 400000 in
theorem stuff_flag (w : World) : Calls Try.prog 50 #[] w (RetS w 4 (vb flagL)) := by
  have ho : Own (w.alloc (.cells #[.bool false, .bool true, .bool true, .bool true, .bool true, .bool true, .bool true, .bool false] 4)) w.heap.size 4 (.slice (some ⟨w.heap.size, 0, none⟩) 8 8) (vb flagL) := Own.built w #[.bool false, .bool true, .bool true, .bool true, .bool true, .bool true, .bool true, .bool false] 8 rfl (by unfold maxLen; omega) (Nat.le_refl _)
  go_enter Try.func50, Try.ntmps50
  go_wp2
  go_ret
  exact ⟨_, _, _, rfl, ho, (Below.refl _ _).alloc (Nat.le_refl _) _⟩
set_option maxHeartbeats 400000 in
theorem ref_Flag (w : World) : Calls Try.prog 53 #[] w (RetS w 4 (vb flagL)) := by
  have ho : Own (w.alloc (.cells #[.bool false, .bool true, .bool true, .bool true, .bool true, .bool true, .bool true, .bool false] 4)) w.heap.size 4 (.slice (some ⟨w.heap.size, 0, none⟩) 8 8) (vb flagL) := Own.built w #[.bool false, .bool true, .bool true, .bool true, .bool true, .bool true, .bool true, .bool false] 8 rfl (by unfold maxLen; omega) (Nat.le_refl _)
  go_enter Try.func53, Try.ntmps53
  go_wp2
  go_ret
  exact ⟨_, _, _, rfl, ho, (Below.refl _ _).alloc (Nat.le_refl _) _⟩

set_option maxHeartbeats 400000 in
theorem stuff_Frames_big (A : Option Addr) (n c : Nat) (w : World) (hn : n ≤ maxLen) (h8 : 8 < n) :
    Calls Try.prog 15 #[.slice A n c] w (RetQ w (.tuple #[.slice none 0 0, .int .i64 1])) := by
  go_enter Try.func15, Try.ntmps15
  go_wp2
  go_ret2
  exact ⟨rfl, 0, rfl⟩
set_option maxHeartbeats 400000 in
theorem stuff_Frames_long (A : Option Addr) (n c : Nat) (ls : List (List Bool)) (w : World) (h : Reads2 w w.heap.size A n ls) (hn : n ≤ maxLen) (h8 : n ≤ 8) (hq : Hid (ls.any longF = true)) :
    Calls Try.prog 15 #[.slice A n c] w (RetQ w (.tuple #[.slice none 0 0, .int .i64 1])) := by
  have cc := contains_fr A n c ls true w h hn hq
  go_enter Try.func15, Try.ntmps15
  go_wp2_with (go_at_call 48; refine cc.mono ?_; rintro e w' ⟨rfl, m2, rfl⟩)
  go_ret2
  exact ⟨rfl, m2, rfl⟩
set_option maxHeartbeats 800000 in
theorem stuff_Frames (A : Option Addr) (n c : Nat) (ls : List (List Bool)) (w : World) (h : Reads2 w w.heap.size A n ls) (hn : n ≤ maxLen) (h8 : n ≤ 8) (hq : Hid (ls.any longF = false)) :
    Calls Try.prog 15 #[.slice A n c] w fun e w' => ∃ A' n' c', e = .returned (.tuple #[.slice A' n' c', .int .i64 0]) ∧ Own w' w.heap.size 4 (.slice A' n' c') (vb (frF ls)) ∧ n' ≤ maxLen ∧ Below w.heap.size w w' := by
  have H := Lib.hid h.length
  have cc := contains_fr A n c ls false w h hn hq
  have hlong : Hid (∀ l ∈ ls, l.length ≤ 64) := fun l hl => longF_no (by have := List.any_eq_false.1 hq.out l hl; simpa using this)
  clear hn
  go_enter Try.func15, Try.ntmps15
  go_wp2_with (first | (go_at_call 48; refine cc.mono ?_; clear cc; rintro e w' ⟨rfl, m2, rfl⟩; have cf := stuff_flag (w.drewN m2)) | (go_at_call 50; refine cf.mono ?_; clear cf; rintro e w0 ⟨A0, n0, k0, rfl, ho0, hb0⟩))
  have hb0' : Below w.heap.size w w0 := (below_drewN (Below.refl _ w) m2).trans hb0
  have ho0' : Own w0 w.heap.size 4 (.slice A0 n0 k0) (vb flagL) := ho0
  clear hb0 ho0
  go_loopw [4, 17] (fun v i wr => ∃ (k : Nat) (out : List Bool), k ≤ n ∧ i = .int .i64 k ∧ out.length ≤ 8 + 136 * k ∧ Own wr w.heap.size 4 v (vb out) ∧ Below w.heap.size w wr ∧ Hid (frF (ls.take k) = out)) (fun _ i _ => n - (intOf i).toNat)
  case atStart => exact ⟨0, flagL, by omega, rfl, by simp [flagL], ho0', hb0', rfl⟩
  case round =>
    clear ho0' hb0'
    obtain ⟨k, out, hk, rfl, hlen, hown, hbel, hst⟩ := hrel
    obtain ⟨A3, k3, e⟩ := hown.form
    rw [List.length_map] at e
    have HL : Hid (out.length ≤ 1096) := by unfold Hid; omega
    generalize hn3 : out.length = n3 at e
    have HN3 := Lib.hid hn3
    clear hn3
    subst e
    by_cases hlt : k < n
    · obtain ⟨ad, l, A', n', c', rfl, hx, hc0, hr0, hm0, hl0⟩ := h.row hlt
      have h64 : n' ≤ 64 := by rw [← hl0]; exact hlong.out l (mem_at hx)
      have hb : ad.block < w.heap.size := by
        obtain ⟨vs, hv, _⟩ := h
        obtain ⟨ad2, u, e2, hb2, _⟩ := hv.at_ hlt
        injection e2 with e2; subst e2; exact hb2
      have hc : wr.cell? (ad.add k) = some (.slice A' n' c') := (hbel.cell (by rw [block_of_add]; exact hb)).trans hc0
      have hr : Reads wr wr.heap.size A' n' (vb l) := (hr0.below hbel).more hbel.size
      have HS : Hid (frF (ls.take (k + 1)) = frStep out l) := by unfold Hid; rw [frF_next hx, hst.out]
      have HSL : Hid ((frStep out l).length ≤ 8 + 136 * (k + 1)) := by
        have := frStep_len out l (by omega); unfold Hid; rw [HN3.out] at this hlen; omega
      have HV := Lib.hid (frStep_vb out l)
      have HF := Lib.hid (stF_len l)
      have HL0 := Lib.hid hl0
      have c1 := stuff_stuff' A' n' c' l wr hr (by omega)
      clear hx hc0 hl0 hm0 hr0 hr hlen
      generalize (stF l).1 = s at *
      go_wp2_with (first
        | (go_at_call 52; refine c1.mono ?_; clear c1; rintro e w1 ⟨A1, n1, k1, rfl, hr1, hm1, hb1⟩; have hown1 := hown.below hb1 (Nat.le_refl _); have hbel1 := hbel.trans (hb1.mono hbel.size); have cf := stuff_flag w1)
        | (go_at_call 50; refine cf.mono ?_; clear cf; rintro e w2 ⟨A2, n2, k2, rfl, ho2, hb2⟩; have hown2 := hown1.below hb2 (Nat.le_refl _); have hbel2 := hbel1.trans (hb2.mono hbel1.size); have cn := concat_bools3 A3 A1 A2 n3 n1 n2 k3 k1 k2 _ _ _ w2 hown2.reads ((hr1.below hb2).more hb2.size) ho2.reads (one_vbF _) (one_vbF _) (one_vbF _) (by have h1 := hr1.len; have h2 := ho2.len; have h3 := HF.out; have h4 := HL.out; have h5 := HN3.out; have h6 := HL0.out; simp [flagL] at h2; simp only [List.length_map] at h1 h3; omega))
        | (go_at_call 51; refine cn.mono ?_; clear cn; rintro e w4 ⟨A4, n4, k4, rfl, ho4, hb4⟩))
      rw [HV.out] at ho4
      have ho4' := ho4.low hbel2.size
      have hbel4 := hbel2.trans (hb4.mono hbel2.size)
      go_roundw
      case rel => exact ⟨k + 1, frStep out l, by omega, by go_num, HSL.out, ho4', hbel4, HS⟩
      case measure => simp [intOf]; omega
    · obtain rfl : k = n := by omega
      have ht := hst.out
      rw [List.take_of_length_le (Nat.le_of_eq H.out)] at ht
      have HT := Lib.hid ht
      clear ht
      go_wp2
      go_ret2
      exact ⟨A3, n3, k3, rfl, by rw [HT.out]; exact hown, by have h4 := HL.out; have h5 := HN3.out; unfold maxLen; omega, hbel⟩
set_option maxHeartbeats 800000 in
theorem ref_Framed (A : Option Addr) (n c : Nat) (ls : List (List Bool)) (w : World) (h : Reads2 w w.heap.size A n ls) (h8 : n ≤ 8) (hq : Hid (ls.any longF = false)) :
    Calls Try.prog 17 #[.slice A n c] w (RetS w 4 (vb (frF ls))) := by
  have H := Lib.hid h.length
  have hlong : Hid (∀ l ∈ ls, l.length ≤ 64) := fun l hl => longF_no (by have := List.any_eq_false.1 hq.out l hl; simpa using this)
  have cf := ref_Flag w
  go_enter Try.func17, Try.ntmps17
  go_wp2_with (go_at_call 53; refine cf.mono ?_; clear cf; rintro e w0 ⟨A0, n0, k0, rfl, ho0, hb0⟩)
  go_loopw [3, 9] (fun v i wr => ∃ (k : Nat) (out : List Bool), k ≤ n ∧ i = .int .i64 k ∧ out.length ≤ 8 + 136 * k ∧ Own wr w.heap.size 4 v (vb out) ∧ Below w.heap.size w wr ∧ Hid (frF (ls.take k) = out)) (fun _ i _ => n - (intOf i).toNat)
  case atStart => exact ⟨0, flagL, by omega, rfl, by simp [flagL], ho0, hb0, rfl⟩
  case round =>
    clear ho0 hb0
    obtain ⟨k, out, hk, rfl, hlen, hown, hbel, hst⟩ := hrel
    have HL : Hid (out.length ≤ 1096) := by unfold Hid; omega
    by_cases hlt : k < n
    · obtain ⟨ad, l, A', n', c', rfl, hx, hc0, hr0, hm0, hl0⟩ := h.row hlt
      have h64 : n' ≤ 64 := by rw [← hl0]; exact hlong.out l (mem_at hx)
      have hb : ad.block < w.heap.size := by
        obtain ⟨vs, hv, _⟩ := h
        obtain ⟨ad2, u, e2, hb2, _⟩ := hv.at_ hlt
        injection e2 with e2; subst e2; exact hb2
      have hc : wr.cell? (ad.add k) = some (.slice A' n' c') := (hbel.cell (by rw [block_of_add]; exact hb)).trans hc0
      have hr : Reads wr wr.heap.size A' n' (vb l) := (hr0.below hbel).more hbel.size
      have HS : Hid (frF (ls.take (k + 1)) = frStep out l) := by unfold Hid; rw [frF_next hx, hst.out]
      have HSL : Hid ((frStep out l).length ≤ 8 + 136 * (k + 1)) := by
        have := frStep_len out l (by omega); unfold Hid; omega
      have HV := Lib.hid (frStep_vb out l)
      have HF := Lib.hid (stF_len l)
      have HL0 := Lib.hid hl0
      have c1 := ref_Stuffed' A' n' c' l wr hr (Nat.le_refl _) (by omega)
      rw [← stF_rfF] at c1
      clear hx hc0 hl0 hm0 hr0 hr hlen
      generalize (stF l).1 = s at *
      go_wp2_with (first
        | (go_at_call 54; refine c1.mono ?_; clear c1; rintro e w1 ⟨A1, n1, k1, rfl, hr1, hm1, hb1⟩; have hown1 := hown.below hb1 (Nat.le_refl _); have hbel1 := hbel.trans (hb1.mono hbel.size); have hs1 : (vb out).length + n1 ≤ 2000 := (by have h1 := hr1.len; have h3 := HF.out; have h4 := HL.out; have h6 := HL0.out; simp only [List.length_map] at h1 h3 ⊢; omega); have hs2 : (vb out ++ vb s).length = (vb out).length + n1 := (by rw [List.length_append, hr1.len]))
        | (at_builtin; refine appN el_bool rfl _ _ rfl rfl hown1 rfl hr1 (one_vbF _) (by unfold maxLen; omega) (by omega) hbel1.size ?_; clear hown1; intro v2 w2 ho2 hb2 _ _; have hbel2 := hbel1.trans hb2; have cf := ref_Flag w2)
        | (go_at_call 53; refine cf.mono ?_; clear cf; rintro e w3 ⟨A3, n3, k3, rfl, ho3, hb3⟩; have hbel3 := hbel2.trans (hb3.mono hbel2.size); have hown3 := ho2.below hb3 (Nat.le_refl _); obtain rfl : n3 = 8 := (by have := ho3.len; simp [flagL] at this; exact this.symm))
        | (at_builtin; refine appN el_bool rfl _ _ rfl rfl hown3 rfl ho3.reads (one_vbF _) (by rw [hs2]; unfold maxLen; omega) (by rw [hs2]; omega) hbel3.size ?_; clear hown3; intro v4 w4 ho4 hb4 _ _; rw [HV.out] at ho4; have hbel4 := hbel3.trans hb4))
      go_roundw
      case rel => exact ⟨k + 1, frStep out l, by omega, by go_num, HSL.out, ho4, hbel4, HS⟩
      case measure => simp [intOf]; omega
    · obtain rfl : k = n := by omega
      have ht := hst.out
      rw [List.take_of_length_le (Nat.le_of_eq H.out)] at ht
      have HT := Lib.hid ht
      clear ht
      obtain ⟨A2, c2, e⟩ := hown.form
      generalize (vb out).length = n2 at e
      subst e
      go_wp2
      go_ret
      exact ⟨A2, _, c2, rfl, by rw [HT.out]; exact hown, hbel⟩

/-! ### the law -/
set_option maxHeartbeats 800000 in
theorem law_Frames_big (A : Option Addr) (n c : Nat) (ls : List (List Bool)) (w : World) (h : Reads2 w w.heap.size A n ls) (hn : n ≤ maxLen) (h8 : 8 < n) :
    Calls Try.prog 3 #[.slice A n c] w (LawTrue w) := by
  have c1 := stuff_Frames_big A n c w hn h8
  unfold maxLen at hn
  go_enter Try.func3, Try.ntmps3
  go_wp2_with (go_at_call 15; refine c1.mono ?_; rintro e w1 ⟨rfl, m1, rfl⟩)
  have h' := h.drewN m1
  go_loop [5, 18] (fun z i => ∃ k : Nat, k ≤ n ∧ i = .int .i64 k ∧ z = .int .i64 1) (fun _ i => n - (intOf i).toNat)
  case atStart => exact ⟨0, by omega, rfl, rfl⟩
  case round =>
    obtain ⟨k, hk, rfl, rfl⟩ := hrel
    by_cases hlt : k < n
    · obtain ⟨ad, l, A', n', c', rfl, hx, hc, hr0, hm0, hl0⟩ := h'.row hlt
      have hm : n' ≤ 9223372036854775807 := by unfold maxLen at hm0; omega
      clear hx hl0 hr0 hm0
      by_cases h64 : 64 < n'
      · go_wp2
        go_round
        case rel => exact ⟨k + 1, by omega, by go_num, rfl⟩
        case measure => simp [intOf]; omega
      · go_wp2
        go_round
        case rel => exact ⟨k + 1, by omega, by go_num, rfl⟩
        case measure => simp [intOf]; omega
    · obtain rfl : k = n := by omega
      go_wp2
      go_ret
      exact .drewN _ _
set_option maxHeartbeats 800000 in
theorem law_Frames_long (A : Option Addr) (n c : Nat) (ls : List (List Bool)) (w : World) (h : Reads2 w w.heap.size A n ls) (hn : n ≤ maxLen) (h8 : n ≤ 8) (hq : Hid (ls.any longF = true)) :
    Calls Try.prog 3 #[.slice A n c] w (LawTrue w) := by
  have H := Lib.hid h.length
  have c1 := stuff_Frames_long A n c ls w h hn h8 hq
  unfold maxLen at hn
  go_enter Try.func3, Try.ntmps3
  go_wp2_with (go_at_call 15; refine c1.mono ?_; rintro e w1 ⟨rfl, m1, rfl⟩)
  have h' := h.drewN m1
  go_loop [5, 18] (fun z i => ∃ (k : Nat) (q : Bool), k ≤ n ∧ i = .int .i64 k ∧ z = .int .i64 (if q = true then 1 else 0) ∧ Hid ((ls.take k).any longF = q)) (fun _ i => n - (intOf i).toNat)
  case atStart => exact ⟨0, false, by omega, rfl, rfl, rfl⟩
  case round =>
    obtain ⟨k, q, hk, rfl, rfl, hst⟩ := hrel
    by_cases hlt : k < n
    · obtain ⟨ad, l, A', n', c', rfl, hx, hc, hr0, hm0, hl0⟩ := h'.row hlt
      have hm : n' ≤ 9223372036854775807 := by unfold maxLen at hm0; omega
      by_cases h64 : 64 < n'
      · have HA : Hid ((ls.take (k + 1)).any longF = true) := by unfold Hid; rw [take_next hx, List.any_append]; simp [longF, hl0, h64]
        clear hx hl0 hr0 hm0
        go_wp2
        go_round
        case rel => exact ⟨k + 1, true, by omega, by go_num, rfl, HA⟩
        case measure => simp [intOf]; omega
      · have HA : Hid ((ls.take (k + 1)).any longF = q) := by unfold Hid; rw [take_next hx, List.any_append, hst.out]; simp [longF, hl0]; omega
        clear hx hl0 hr0 hm0
        go_wp2
        go_round
        case rel => exact ⟨k + 1, q, by omega, by go_num, rfl, HA⟩
        case measure => simp [intOf]; omega
    · obtain rfl : k = n := by omega
      obtain rfl : q = true := by rw [← hst.out, List.take_of_length_le (Nat.le_of_eq H.out)]; exact hq.out
      go_wp2
      go_ret
      exact .drewN _ _
set_option maxHeartbeats 800000 in
theorem law_Frames (A : Option Addr) (n c : Nat) (ls : List (List Bool)) (w : World) (h : Reads2 w w.heap.size A n ls) (hn : n ≤ maxLen) (h8 : n ≤ 8) (hq : Hid (ls.any longF = false)) :
    Calls Try.prog 3 #[.slice A n c] w (LawTrue w) := by
  have H := Lib.hid h.length
  have hlong : Hid (∀ l ∈ ls, l.length ≤ 64) := fun l hl => longF_no (by have := List.any_eq_false.1 hq.out l hl; simpa using this)
  have c1 := stuff_Frames A n c ls w h hn h8 hq
  unfold maxLen at hn
  go_enter Try.func3, Try.ntmps3
  go_wp2_with (go_at_call 15; refine c1.mono ?_; clear c1; rintro e w1 ⟨A1, n1, k1, rfl, ho1, hm1, hb1⟩)
  have h' := (h.below hb1).moreF hb1.size
  go_loop [5, 18] (fun z i => ∃ (k : Nat), k ≤ n ∧ i = .int .i64 k ∧ z = .int .i64 0) (fun _ i => n - (intOf i).toNat)
  case atStart => exact ⟨0, by omega, rfl, rfl⟩
  case round =>
    obtain ⟨k, hk, rfl, rfl⟩ := hrel
    by_cases hlt : k < n
    · obtain ⟨ad, l, A', n', c', rfl, hx, hc, hr0, hm0, hl0⟩ := h'.row hlt
      have h64 : n' ≤ 64 := by rw [← hl0]; exact hlong.out l (mem_at hx)
      clear hx hl0 hr0 hm0
      go_wp2
      go_round
      case rel => exact ⟨k + 1, by omega, by go_num, rfl⟩
      case measure => simp [intOf]; omega
    · obtain rfl : k = n := by omega
      have c2 := ref_Framed A k c ls w1 h' h8 hq
      have c3 := fun (A2 : Option Addr) (n2 k2 : Nat) (w2 : World) (hb2 : Below w1.heap.size w1 w2) (h2 : Reads w2 w2.heap.size A2 n2 (vb (frF ls))) => ref_Bools A1 A2 n1 n2 k1 k2 _ _ true w2 (ho1.reads.below hb2) h2 hm1 (by simp [Hid])
      clear ho1
      generalize frF ls = xs at *
      go_wp2_with (first | (go_at_call 17; refine c2.mono ?_; clear c2; rintro e w2 ⟨A2, n2, k2, rfl, ho2, hb2⟩; have c3 := c3 A2 n2 k2 w2 hb2 ho2.reads) | (go_at_call 16; refine c3.mono ?_; rintro e w3 ⟨rfl, m, rfl⟩))
      go_ret
      exact ⟨rfl, below_drewN (hb1.trans (hb2.mono hb1.size)) _⟩
theorem StuffFrames_walk (A : Option Addr) (n c : Nat) (ls : List (List Bool)) (w : World) (h : Reads2 w w.heap.size A n ls) (hm : n * 24 ≤ reachBytes) :
    Calls Try.prog 3 #[.slice A n c] w (LawTrue w) := by
  have hn : n ≤ maxLen := by have := reachBytes_lt; unfold maxLen; omega
  rcases Nat.lt_or_ge 8 n with h8 | h8
  · exact law_Frames_big A n c ls w h hn h8
  · cases hq : ls.any longF
    · exact law_Frames A n c ls w h hn h8 hq
    · exact law_Frames_long A n c ls w h hn h8 hq
end Go.Proofs.Ytmepiiheidmbgaa

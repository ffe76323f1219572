/-
  span.All and quipuref.Span walked.
-/
import Derived.Test.YtipnnpjinopgoaaSpanp
import Derived.Test.YtipnnpjinopgoaaSortu
import Derived.Test.YtipnnpjinopgoaaFar
import Derived.Test.YtipnnpjinopgoaaBook
set_option linter.unusedVariables false
namespace Go.Proofs.Ytipnnpjinopgoaa
open Go.RowKit

theorem el_u32s : Elem Try.prog 22 36 (.int .u32 0) 4 := Elem.mk' Try.underlying22 (by kernel_rfl) rfl
theorem el_bools : Elem Try.prog 40 4 (.bool false) 1 := Elem.mk' Try.underlying40 (by kernel_rfl) rfl
def RetAll (w : World) (l : List Nat) (n : Nat) (e : Ending) (w' : World) : Prop :=
  ∃ (r : List Nat) (A : Option Addr) (m c : Nat), e = .returned (.slice A m c) ∧ r.length = m ∧ r.Perm (allF l n) ∧ r.Pairwise (fun x y => x ≤ y) ∧ Own w' w.heap.size 36 (.slice A m c) (vn .u32 r) ∧ Below w.heap.size w w'
theorem allF_256 (rows : List Nat) {k : Nat} (hk : k ≤ 8) : (allF rows k).length ≤ 256 := by
  obtain ⟨j, h1, h2⟩ := allF_len rows k
  rw [h2]
  exact Nat.pow_le_pow_right (n := 2) (by omega) (show j ≤ 8 by omega)
theorem allF_pos (rows : List Nat) (k : Nat) : 0 < (allF rows k).length := by
  obtain ⟨j, h1, h2⟩ := allF_len rows k
  rw [h2]
  exact Nat.pow_pos (by omega)
theorem own_block {w : World} {base : Nat} {E : TypeId} {v : Value} {xs : List Value} (h : Own w base E v xs) (h0 : 0 < xs.length) : ∃ g c, v = .slice (some ⟨g, 0, none⟩) xs.length c ∧ g < w.heap.size ∧ base ≤ g := by
  rcases h.2 with ⟨e, h1⟩ | ⟨g, cap, cur, e, hb, hh, _⟩
  · omega
  · exact ⟨g, cap, e, (Array.getElem?_eq_some_iff.1 hh).1, hb⟩
set_option maxHeartbeats 1600000 in
theorem span_All {m : Nat} (A : Option Addr) (n c : Nat) (l : List Nat) (w : World) (h : Reads w w.heap.size A n (vn .u32 l)) (hn : n ≤ 8) (hm : m ≤ 12) (hrow : ∀ x ∈ l, x < 2 ^ m) :
    Calls Try.prog 15 #[.slice A n c] w (RetAll w l n) := by
  have o0 := Own.built (base := w.heap.size) (E := 36) w #[.int .u32 0] 1 rfl (by simp [maxLen]) (Nat.le_refl _)
  have HROW := Lib.hid hrow
  clear hrow
  go_enter Try.func15, Try.ntmps15
  go_wp2
  go_loopw [3, 11] (fun v i wr => ∃ k : Nat, k ≤ n ∧ i = .int .i64 k ∧ Own wr w.heap.size 36 v (vn .u32 (allF l k)) ∧ Below w.heap.size w wr) (fun _ i _ => n - (intOf i).toNat)
  case atStart => exact ⟨0, by omega, rfl, o0, (Below.refl _ _).alloc (Nat.le_refl _) _⟩
  case round =>
    obtain ⟨k, hk, rfl, hown, hbel⟩ := hrel
    clear o0
    obtain ⟨wo, rfl⟩ : ∃ wo : World, wo = wr := ⟨_, rfl⟩
    obtain ⟨F, hF⟩ : ∃ F, F = allF l k := ⟨_, rfl⟩
    have hF256 := allF_256 l (k := k) (by omega)
    have hFpos := allF_pos l k
    rw [← hF] at hown hF256 hFpos
    obtain ⟨N, hN⟩ : ∃ N, F.length = N := ⟨_, rfl⟩
    rw [hN] at hF256 hFpos
    obtain ⟨g, c3, e3, hg, hgb⟩ := own_block hown (by rw [List.length_map, hN]; exact hFpos)
    rw [List.length_map, hN] at e3
    subst e3
    have hFlt : Hid (∀ x ∈ F, x < 4096) := by
      intro x hx
      have h1 := allF_lt HROW.out (by rw [← hF]; exact hx)
      have := pow_le12 hm
      omega
    by_cases hlt : k < n
    · obtain ⟨ad, x, rfl, hb, hx, hc⟩ := (h.below hbel).nat_at hlt
      have i1 : (k : Int) < (n : Int) := by omega
      have hxD : l.getD k 0 = x := by rw [List.getD_eq_getElem?_getD, hx]; rfl
      have hx4 : x < 4096 := by
        have := HROW.out x (mem_at hx)
        have := pow_le12 hm
        omega
      by_cases hin : x ∈ F
      · have ct := contains_u32 (some ⟨g, 0, none⟩) N c3 F x true wo hown.reads (by unfold maxLen; omega) (by unfold Hid; simp [hin])
        have HA : Hid (allF l (k + 1) = F) := by unfold Hid; rw [allF, hxD, ← hF, if_pos hin]
        clear hx hxD hin hF hN
        go_wp2_with (go_at_call 22; refine ct.mono ?_; clear ct; rintro e w' ⟨rfl, rfl⟩)
        go_roundw
        case rel => exact ⟨k + 1, by omega, by go_num, by rw [HA.out]; exact hown, hbel⟩
        case measure => simp [intOf] <;> omega
      · have ct := contains_u32 (some ⟨g, 0, none⟩) N c3 F x false wo hown.reads (by unfold maxLen; omega) (by unfold Hid; simp [hin])
        have HA : Hid (allF l (k + 1) = F ++ F.map (· ^^^ x)) := by unfold Hid; rw [allF, hxD, ← hF, if_neg hin]
        have HN := Lib.hid hN
        have HOWN := Lib.hid hown
        have HBEL := Lib.hid hbel
        clear hx hxD hin hF hN hown hbel
        go_wp2_with (go_at_call 22; refine ct.mono ?_; clear ct; rintro e w' ⟨rfl, rfl⟩)
        go_loopw [3, 20] (fun v i wi => ∃ t : Nat, t ≤ N ∧ i = .int .i64 (t : Int) ∧ Own wi w.heap.size 36 v (vn .u32 F ++ vn .u32 ((F.take t).map (· ^^^ x))) ∧ Reads wi wo.heap.size (some ⟨g, 0, none⟩) N (vn .u32 F) ∧ Below w.heap.size w wi ∧ wo.heap.size ≤ wi.heap.size) (fun _ i _ => N - (intOf i).toNat)
        case atStart => exact ⟨0, by omega, rfl, by simpa using HOWN.out, HOWN.out.reads, HBEL.out, Nat.le_refl _⟩
        case round =>
          obtain ⟨t, ht, rfl, hown, hrd, hbel, hsz⟩ := hrel
          by_cases hlt2 : t < N
          · have i2 : (t : Int) < (N : Int) := by omega
            obtain ⟨ad2, y, e2, _, hy, hcy⟩ := hrd.nat_at hlt2
            injection e2 with e2
            subst e2
            have hy4 := hFlt.out y (mem_at hy)
            have hxy := u32_xor_nat y x (by omega) (by omega)
            have hcy2 : wr.cell? ⟨g, t, none⟩ = some (.int .u32 (y : Int)) := by rw [← add_row]; exact hcy
            have HP : Hid (vn .u32 F ++ vn .u32 ((F.take t).map (· ^^^ x)) ++ [Value.int .u32 ((y ^^^ x : Nat) : Int)] = vn .u32 F ++ vn .u32 ((F.take (t + 1)).map (· ^^^ x))) := by
              unfold Hid
              rw [take_next hy, List.map_append, List.append_assoc]
              simp [vn]
            have HL : Hid ((vn .u32 F ++ vn .u32 ((F.take t).map (· ^^^ x))).length = N + t) := by
              unfold Hid
              rw [List.length_append, List.length_map, List.length_map, List.length_map, List.length_take, HN.out]
              omega
            clear hy hy4
            go_wp2_with (at_builtin; refine app1F el_u32s rfl _ _ rfl rfl hown _ _ rfl rfl (by rw [HL.out]; unfold maxLen; omega) (by rw [HL.out]; omega) hbel.size ?_; intro v1 w1 ho1 hb1 hg1 hat1 hfar1)
            have hrd1 := far_keep hrd hsz ho1 hg1 hfar1
            rw [HP.out] at ho1
            have hsz1 := hg1.size
            go_roundw
            case rel => exact ⟨t + 1, by omega, by go_num, ho1, hrd1, hbel.trans hb1, by omega⟩
            case measure => simp [intOf] <;> omega
          · obtain rfl : t = N := by omega
            have HE : Hid (vn .u32 F ++ vn .u32 ((F.take t).map (· ^^^ x)) = vn .u32 (allF l (k + 1))) := by
              unfold Hid
              rw [HA.out, List.take_of_length_le (Nat.le_of_eq HN.out)]
              simp [vn]
            rw [HE.out] at hown
            go_wp2
            go_roundw
            case rel => exact ⟨k + 1, by omega, by go_num, hown, hbel⟩
            case measure => simp [intOf] <;> omega
    · obtain rfl : n = k := by omega
      have cs := sort_words g N c3 w.heap.size F wo (by omega) hown
      go_wp2_with (go_at_call 23; refine cs.mono ?_; clear cs; rintro e w' ⟨rfl, r, hp, hs, ho, hb⟩)
      go_ret
      exact ⟨r, _, N, c3, rfl, by rw [hp.length_eq, hN], by rw [← hF]; exact hp, hs, ho, hbel.trans hb⟩
/-- the marks behind s sets -/
def markL (l : List Nat) (n m s : Nat) : List Bool := (List.range (2 ^ m)).map (marked l n s)
theorem markL_zero (l : List Nat) (n m : Nat) : List.replicate (2 ^ m) (Value.bool false) = vb (markL l n m 0) := by
  unfold vb markL
  apply List.ext_getElem (by simp)
  intro i h1 h2
  simp [marked]
theorem markL_len (l : List Nat) (n m s : Nat) : (markL l n m s).length = 2 ^ m := by simp [markL]
theorem markL_next (l : List Nat) (n m s x : Nat) (hx : xsel l (bitB s) n = x) : (markL l n m s).set x true = markL l n m (s + 1) := by
  unfold markL
  apply List.ext_getElem (by simp)
  intro i h1 h2
  rw [List.getElem_set]
  simp only [List.getElem_map, List.getElem_range, marked_next, hx]
  by_cases e : x = i
  · subst e; simp
  · rw [if_neg e]; simp [e]
theorem shl_u32 {m : Nat} (hm : m ≤ 12) : IntKind.u32.wrap ((1 : Int) * 2 ^ m) = ((2 ^ m : Nat) : Int) := by
  have h := (pow_le12 hm)
  rw [IntKind.wrap_u32, Int.one_mul, show ((2 : Int) ^ m) = ((2 ^ m : Nat) : Int) by push_cast; rfl]
  omega
end Go.Proofs.Ytipnnpjinopgoaa

import Derived.Test.YtijhcbnnopklaaaState
set_option linter.unusedVariables false
namespace Go.Proofs.Ytijhcbnnopklaaa
open Go.RowKit

theorem el_intS : Elem Try.prog 35 3 (.int .i64 0) 8 := Elem.mk' Try.underlying35 (by kernel_rfl) rfl
/-- whose each number is -/
def ownA (s : Nat) : List Int → List Int
  | [] => []
  | k :: t => List.replicate k.toNat (s : Int) ++ ownA (s + 1) t
theorem ownA_append (s : Nat) (a b : List Int) : ownA s (a ++ b) = ownA s a ++ ownA (s + a.length) b := by
  induction a generalizing s with
  | nil => simp [ownA]
  | cons x a ih =>
    simp only [List.cons_append, ownA, ih, List.append_assoc, List.length_cons]
    rw [show s + 1 + a.length = s + (a.length + 1) from by omega]
theorem ownA_len (s : Nat) (l : List Int) (h : l.all inPart = true) : ((ownA s l).length : Int) = sumI l := by
  induction l generalizing s with
  | nil => simp [ownA, sumI]
  | cons z l ih =>
    rw [List.all_cons, Bool.and_eq_true] at h
    obtain ⟨h1, h2⟩ := h
    simp only [inPart, Bool.and_eq_true, decide_eq_true_eq] at h1
    have := ih (s + 1) h2
    simp only [ownA, sumI, List.length_append, List.length_replicate]; omega
theorem ownA_mem (s : Nat) (l : List Int) : ∀ o ∈ ownA s l, (s : Int) ≤ o ∧ o < (s : Int) + l.length := by
  induction l generalizing s with
  | nil => simp [ownA]
  | cons z l ih =>
    intro o ho
    simp only [ownA, List.mem_append] at ho
    simp only [List.length_cons]
    rcases ho with ho | ho
    · have := (List.mem_replicate.1 ho).2; omega
    · have := ih (s + 1) o ho; omega
theorem ownA_next {l : List Int} {s : Nat} {k : Int} (h : l[s]? = some k) : ownA 0 (l.take (s + 1)) = ownA 0 (l.take s) ++ List.replicate k.toNat (s : Int) := by
  have hs := (List.getElem?_eq_some_iff.1 h).1
  rw [take_next h, ownA_append]
  simp only [ownA, List.append_nil, List.length_take, Nat.zero_add]
  rw [show min s l.length = s from by omega]
theorem ownA_split {l : List Int} {s : Nat} {k : Int} (h : l[s]? = some k) : ownA 0 l = ownA 0 (l.take s) ++ (List.replicate k.toNat (s : Int) ++ ownA (s + 1) (l.drop (s + 1))) := by
  have hs := (List.getElem?_eq_some_iff.1 h).1
  conv => lhs; rw [← List.take_append_drop s l, drop_next h]
  rw [ownA_append]
  simp only [ownA, List.length_take, Nat.zero_add]
  rw [show min s l.length = s from by omega]
theorem own_in {l : List Int} {s i p : Nat} {k : Int} (h : l[s]? = some k) (hp : (ownA 0 (l.take s)).length = p) (h1 : p ≤ i) (h2 : i < p + k.toNat) : (ownA 0 l)[i]? = some (s : Int) := by
  rw [ownA_split h, List.getElem?_append_right (by omega), List.getElem?_append_left (by simp; omega), List.getElem?_replicate, if_pos (by omega)]
theorem own_lt {l : List Int} {s i p : Nat} {k : Int} (h : l[s]? = some k) (hp : (ownA 0 (l.take s)).length = p) (h1 : i < p) : ∃ o, (ownA 0 l)[i]? = some o ∧ o ≠ (s : Int) := by
  have hi : i < (ownA 0 (l.take s)).length := by omega
  refine ⟨(ownA 0 (l.take s))[i], ?_, ?_⟩
  · rw [ownA_split h, List.getElem?_append_left hi]; exact List.getElem?_eq_getElem hi
  · have := ownA_mem 0 (l.take s) _ (List.getElem_mem hi)
    have hl : (l.take s).length ≤ s := List.length_take_le _ _
    omega

set_option maxHeartbeats 600000 in
theorem ref_Owners (A : Option Addr) (n c : Nat) (l : List Int) (w : World) (h : Reads w w.heap.size A n (vi .i64 l)) (hn : n ≤ 8) (hall : Hid (l.all inPart = true)) :
    Calls Try.prog 47 #[.slice A n c] w (RetS w 3 (vi .i64 (ownA 0 l))) := by
  have H := Lib.hid h.int_len
  have hall2 : Hid (∀ k, (l.take k).all inPart = true) := fun k => by
    rw [List.all_eq_true]
    intro x hx
    exact List.all_eq_true.1 hall.out x (List.mem_of_mem_take hx)
  go_enter Try.func47, Try.ntmps47
  go_wp2
  go_loopw [3, 9] (fun v i wr => ∃ s : Nat, s ≤ n ∧ i = .int .i64 s ∧ Own wr w.heap.size 3 v (vi .i64 (ownA 0 (l.take s))) ∧ Below w.heap.size w wr) (fun _ i _ => n - (intOf i).toNat)
  case atStart => exact ⟨0, by omega, rfl, Own.nil _ _ _, Below.refl _ _⟩
  case round =>
    obtain ⟨s, hs, rfl, hown, hb⟩ := hrel
    have hol := ownA_len 0 _ (hall2.out s)
    have hbd := sumI_bd _ (hall2.out s)
    have hlk : (l.take s).length ≤ s := List.length_take_le _ _
    have hlen : (ownA 0 (l.take s)).length ≤ 16 * s := by omega
    clear hol hbd hlk
    by_cases hlt : s < n
    · obtain ⟨ad, k, e, hbb, hx, hcx⟩ := (h.below hb).int_at hlt
      subst e
      have HX := Lib.hid (ownA_next hx)
      have hz := List.all_eq_true.1 hall.out k (mem_at hx)
      simp only [inPart, Bool.and_eq_true, decide_eq_true_eq] at hz
      obtain ⟨hz1, hz2⟩ := hz
      clear hx
      obtain ⟨K, rfl⟩ := Int.eq_ofNat_of_zero_le hz1
      rw [Int.toNat_natCast] at HX
      go_wp2
      go_loopw [3, 6] (fun v i wi => ∃ j : Nat, j ≤ K ∧ i = .int .i64 j ∧ Own wi w.heap.size 3 v (vi .i64 (ownA 0 (l.take s) ++ List.replicate j (s : Int))) ∧ Below w.heap.size w wi) (fun _ i _ => K - (intOf i).toNat)
      case atStart => exact ⟨0, by omega, rfl, by simpa using hown, hb⟩
      case round =>
        obtain ⟨j, hj, rfl, hown2, hb2⟩ := hrel
        have hB := hb2.size
        have hl2 : (vi .i64 (ownA 0 (l.take s) ++ List.replicate j (s : Int))).length ≤ 200 := by
          rw [List.length_map, List.length_append, List.length_replicate]; omega
        by_cases hlt2 : j < K
        · go_wp2_with (at_builtin; refine app1 el_intS rfl _ _ rfl rfl hown2 _ _ rfl rfl (by unfold maxLen; omega) (by omega) hB ?_; intro v1 w1 ho1 hb1 _ _)
          go_roundw
          case rel =>
            refine ⟨j + 1, by omega, by go_num, ?_, hb2.trans hb1⟩
            rw [List.replicate_succ', ← List.append_assoc]
            simpa [vi] using ho1
          case measure => simp only [intOf]; omega
        · obtain rfl : j = K := by omega
          go_wp2
          go_roundw
          case rel => exact ⟨s + 1, by omega, by go_num, by rw [HX.out]; exact hown2, hb2⟩
          case measure => simp only [intOf]; omega
    · obtain rfl : s = n := by omega
      obtain ⟨A2, c2, e⟩ := hown.form
      generalize hn2 : (vi .i64 (ownA 0 (l.take s))).length = n2 at e
      subst e
      clear hn2
      rw [List.take_of_length_le (Nat.le_of_eq H.out)] at hown
      go_wp2
      go_ret
      exact ⟨A2, n2, c2, rfl, hown, hb⟩
end Go.Proofs.Ytijhcbnnopklaaa

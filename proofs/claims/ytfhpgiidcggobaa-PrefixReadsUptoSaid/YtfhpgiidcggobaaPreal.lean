/-
  The law: read by the program, read by the document: one list, or none.
-/
import Derived.Test.YtfhpgiidcggobaaPreag
import Derived.Test.YtfhpgiidcggobaaInts
set_option linter.unusedVariables false
namespace Go.Proofs.Ytfhpgiidcggobaa
open Go.RowKit

theorem vi_vnR (l : List Nat) : vi .i64 (l.map (fun x : Nat => (x : Int))) = vn .i64 l := by unfold vi vn; rw [List.map_map]; rfl
set_option maxHeartbeats 1600000 in
theorem law_PR_err (A A' : Option Addr) (n c m c' : Nat) (ls : List (List Bool)) (z : Int) (w : World) (h : Reads2c w w.heap.size A n ls) (hn : n ≤ maxLen) (h0 : z ≠ 0) (hz : Hid (codeErr ls = z)) :
    Calls Try.prog 10 #[.slice A n c, .slice A' m c'] w (LawTrue w) := by
  have b0 : (z != 0) = true := by simpa using h0
  have b1 : (z == 0) = false := by simpa using h0
  have cR := prefix_Read_err A A' n c m c' ls z w h hn hz b0
  have cC := fun (w1 : World) (hb : Below w.heap.size w w1) => ref_CodeCheck A n c ls z w1 ((h.below hb).more hb.size).plain hn hz
  unfold maxLen at hn
  clear hz
  go_enter Try.func10, Try.ntmps10
  go_wp2_with (first | (go_at_call 34; refine cR.mono ?_; clear cR; rintro e w1 ⟨rfl, hb1⟩; have cC := cC w1 hb1) | (go_at_call 16; refine cC.mono ?_; clear cC; rintro e w2 ⟨rfl, rfl⟩))
  go_loopw [7, 29] (fun v7 v29 wr => ∃ k : Nat, k ≤ n ∧ v29 = .int .i64 k ∧ v7 = .int .i64 z ∧ wr = w1) (fun _ v29 _ => n - (intOf v29).toNat)
  case atStart => exact ⟨0, by omega, rfl, rfl, rfl⟩
  case round =>
    obtain ⟨k, hk, rfl, rfl, hwr⟩ := hrel
    obtain rfl : w1 = wr := hwr.symm
    by_cases hlt : k < n
    · have i1 : (k : Int) < (n : Int) := by omega
      obtain ⟨ad, Ar, nr, cr, e, _, hcr, _⟩ := (h.below hb1).rowB hlt
      subst e
      go_wp2
      go_roundw
      case rel => exact ⟨k + 1, by omega, by go_num, by trivial⟩
      case measure => simp [intOf] <;> omega
    · obtain rfl : n = k := by omega
      have i1 : ¬ (n : Int) < (n : Int) := by omega
      go_wp2
      go_ret
      exact ⟨rfl, hb1⟩
set_option maxHeartbeats 1600000 in
theorem law_PR_free (A A' : Option Addr) (n c m c' : Nat) (ls : List (List Bool)) (w : World) (h : Reads2c w w.heap.size A n ls) (hn : n ≤ maxLen) (hz : Hid (codeErr ls = 0)) (hf : freeB ls n = false) :
    Calls Try.prog 10 #[.slice A n c, .slice A' m c'] w (LawTrue w) := by
  have cR := prefix_Read_form A A' n c m c' ls w h hn hz (.inl hf)
  have cC := fun (w1 : World) (hb : Below w.heap.size w w1) => ref_CodeCheck A n c ls 0 w1 ((h.below hb).more hb.size).plain hn hz
  have cP := fun (w1 : World) (hb : Below w.heap.size w w1) => ref_Prefix A n c ls w1 ((h.below hb).more hb.size) hn
  rw [hf] at cP
  unfold maxLen at hn
  clear hz hf
  go_enter Try.func10, Try.ntmps10
  go_wp2_with (first | (go_at_call 34; refine cR.mono ?_; clear cR; rintro e w1 ⟨rfl, hb1⟩; have cC := cC w1 hb1; have cP := cP w1 hb1) | (go_at_call 16; refine cC.mono ?_; clear cC; rintro e w2 ⟨rfl, rfl⟩) | (go_at_call 26; refine cP.mono ?_; clear cP; rintro e w2 ⟨rfl, m2, rfl⟩))
  go_loopw [7, 29] (fun v7 v29 wr => ∃ k : Nat, k ≤ n ∧ v29 = .int .i64 k ∧ v7 = .int .i64 3 ∧ wr = w1.drewN m2) (fun _ v29 _ => n - (intOf v29).toNat)
  case atStart => exact ⟨0, by omega, rfl, rfl, rfl⟩
  case round =>
    obtain ⟨k, hk, rfl, rfl, rfl⟩ := hrel
    by_cases hlt : k < n
    · have i1 : (k : Int) < (n : Int) := by omega
      obtain ⟨ad, Ar, nr, cr, e, _, hcr, _⟩ := (h.below hb1).rowB hlt
      subst e
      go_wp2
      go_roundw
      case rel => exact ⟨k + 1, by omega, by go_num, by trivial⟩
      case measure => simp [intOf] <;> omega
    · obtain rfl : n = k := by omega
      have i1 : ¬ (n : Int) < (n : Int) := by omega
      go_wp2
      go_ret
      exact ⟨rfl, below_drewN hb1 m2⟩
theorem noneB_hit {ls : List (List Bool)} {n : Nat} (h : noneB ls n = true) (hall : ∀ j, j < n → 1 ≤ (ls.getD j []).length) : False := by
  unfold noneB anyTo at h
  obtain ⟨j, hj, h2⟩ := List.any_eq_true.1 h
  have := hall j (List.mem_range.1 hj)
  simp at h2
  rw [List.getD_eq_getElem?_getD, h2] at this
  simp at this
theorem noneB_no {ls : List (List Bool)} {n : Nat} (h : noneB ls n = false) : ∀ j, j < n → 1 ≤ (ls.getD j []).length := fun j hj => by
  unfold noneB anyTo at h
  have := List.any_eq_false.1 h j (List.mem_range.2 hj)
  have h3 : (ls.getD j []).length ≠ 0 := by intro e; rw [e] at this; simp at this
  omega
set_option maxHeartbeats 1600000 in
theorem law_PR_none (A A' : Option Addr) (n c m c' : Nat) (ls : List (List Bool)) (w : World) (h : Reads2c w w.heap.size A n ls) (hn : n ≤ maxLen) (hz : Hid (codeErr ls = 0)) (hf : freeB ls n = true) (hno : noneB ls n = true) :
    Calls Try.prog 10 #[.slice A n c, .slice A' m c'] w (LawTrue w) := by
  have cR := prefix_Read_form A A' n c m c' ls w h hn hz (.inr hno)
  have cC := fun (w1 : World) (hb : Below w.heap.size w w1) => ref_CodeCheck A n c ls 0 w1 ((h.below hb).more hb.size).plain hn hz
  have cP := fun (w1 : World) (hb : Below w.heap.size w w1) => ref_Prefix A n c ls w1 ((h.below hb).more hb.size) hn
  rw [hf] at cP
  have HNO := Lib.hid hno
  unfold maxLen at hn
  clear hz hf hno
  go_enter Try.func10, Try.ntmps10
  go_wp2_with (first | (go_at_call 34; refine cR.mono ?_; clear cR; rintro e w1 ⟨rfl, hb1⟩; have cC := cC w1 hb1; have cP := cP w1 hb1) | (go_at_call 16; refine cC.mono ?_; clear cC; rintro e w2 ⟨rfl, rfl⟩) | (go_at_call 26; refine cP.mono ?_; clear cP; rintro e w2 ⟨rfl, m2, rfl⟩))
  go_loopw [7, 29] (fun v7 v29 wr => ∃ k : Nat, k ≤ n ∧ v29 = .int .i64 k ∧ ((v7 = .int .i64 0 ∧ Hid (∀ j, j < k → 1 ≤ (ls.getD j []).length)) ∨ v7 = .int .i64 3) ∧ wr = w1.drewN m2) (fun _ v29 _ => n - (intOf v29).toNat)
  case atStart => exact ⟨0, by omega, rfl, .inl ⟨rfl, fun j hj => absurd hj (by omega)⟩, rfl⟩
  case round =>
    obtain ⟨k, hk, rfl, hcase, rfl⟩ := hrel
    by_cases hlt : k < n
    · have i1 : (k : Int) < (n : Int) := by omega
      obtain ⟨ad, Ar, nr, cr, e, _, hcr, hlr⟩ := (h.below hb1).rowB hlt
      subst e
      rcases hcase with ⟨rfl, hall⟩ | rfl
      · have HLR := Lib.hid hlr
        clear hlr
        by_cases hr0 : nr = 0
        · subst hr0
          go_wp2
          go_roundw
          case rel => exact ⟨k + 1, by omega, by go_num, .inr rfl, by trivial⟩
          case measure => simp [intOf] <;> omega
        · have b1 : ((nr : Int) == 0) = false := by simp; omega
          have HG : Hid (∀ j, j < k + 1 → 1 ≤ (ls.getD j []).length) := fun j hj => by
            rcases Nat.lt_or_ge j k with h2 | h2
            · exact hall.out j h2
            · obtain rfl : j = k := by omega
              have := HLR.out
              omega
          go_wp2
          go_roundw
          case rel => exact ⟨k + 1, by omega, by go_num, .inl ⟨rfl, HG⟩, by trivial⟩
          case measure => simp [intOf] <;> omega
      · clear hlr
        go_wp2
        go_roundw
        case rel => exact ⟨k + 1, by omega, by go_num, .inr rfl, by trivial⟩
        case measure => simp [intOf] <;> omega
    · obtain rfl : n = k := by omega
      have i1 : ¬ (n : Int) < (n : Int) := by omega
      rcases hcase with ⟨rfl, hall⟩ | rfl
      · exact (noneB_hit HNO.out hall.out).elim
      · go_wp2
        go_ret
        exact ⟨rfl, below_drewN hb1 m2⟩
set_option maxHeartbeats 1600000 in
theorem law_PR_main (A A' : Option Addr) (n c m c' : Nat) (ls : List (List Bool)) (bits : List Bool) (w : World) (h : Reads2c w w.heap.size A n ls) (h' : Reads w w.heap.size A' m (vb bits)) (hc : m ≤ c') (hn : n ≤ 8) (hm : m ≤ 1048576) (hz : Hid (codeErr ls = 0)) (hf : freeB ls n = true) (hno : noneB ls n = false) :
    Calls Try.prog 10 #[.slice A n c, .slice A' m c'] w (LawTrue w) := by
  have hn63 : n ≤ maxLen := by unfold maxLen; omega
  have hall := noneB_no hno
  have HALL := Lib.hid hall
  have cR := prefix_Read A A' n c m c' ls bits (readR ls n m bits []) w h h' hc hn hm hz hf hno hall rfl
  have cC := fun (w1 : World) (hb : Below w.heap.size w w1) => ref_CodeCheck A n c ls 0 w1 ((h.below hb).more hb.size).plain hn63 hz
  have cP := fun (w1 : World) (hb : Below w.heap.size w w1) => ref_Prefix A n c ls w1 ((h.below hb).more hb.size) hn63
  have cQ := fun (w1 : World) (hb : Below w.heap.size w w1) => ref_Read A A' n c m c' ls bits (readR ls n m bits []) w1 ((h.below hb).more hb.size) ((h'.below hb).more hb.size) hc hn hm hall (oneW_free hf) rfl
  rw [hf] at cP
  clear hz hf hno hall hn63 h'
  generalize readR ls n m bits [] = R at *
  cases R with
  | none =>
    go_enter Try.func10, Try.ntmps10
    go_wp2_with (first | (go_at_call 34; refine cR.mono ?_; clear cR; rintro e w1 ⟨rfl, hb1⟩; have cC := cC w1 hb1; have cP := cP w1 hb1) | (go_at_call 16; refine cC.mono ?_; clear cC; rintro e w2 ⟨rfl, rfl⟩) | (go_at_call 26; refine cP.mono ?_; clear cP; rintro e w2 ⟨rfl, m2, rfl⟩))
    go_loopw [7, 29] (fun v7 v29 wr => ∃ k : Nat, k ≤ n ∧ v29 = .int .i64 k ∧ v7 = .int .i64 0 ∧ wr = w1.drewN m2) (fun _ v29 _ => n - (intOf v29).toNat)
    case atStart => exact ⟨0, by omega, rfl, rfl, rfl⟩
    case round =>
      obtain ⟨k, hk, rfl, rfl, rfl⟩ := hrel
      by_cases hlt : k < n
      · have i1 : (k : Int) < (n : Int) := by omega
        obtain ⟨ad, Ar, nr, cr, e, _, hcr, hlr⟩ := (h.below hb1).rowB hlt
        subst e
        have b1 : ((nr : Int) == 0) = false := by have := HALL.out k hlt; rw [hlr] at this; simp; omega
        clear hlr cQ
        go_wp2
        go_roundw
        case rel => exact ⟨k + 1, by omega, by go_num, by trivial⟩
        case measure => simp [intOf] <;> omega
      · obtain rfl : n = k := by omega
        have i1 : ¬ (n : Int) < (n : Int) := by omega
        have cQ := cQ (w1.drewN m2) (below_drewN hb1 m2)
        go_wp2_with (go_at_call 35; refine cQ.mono ?_; clear cQ; rintro e w3 ⟨rfl, hb3⟩)
        go_ret
        exact ⟨rfl, (below_drewN hb1 m2).trans (hb3.mono hb1.size)⟩
  | some L =>
    go_enter Try.func10, Try.ntmps10
    go_wp2_with (first | (go_at_call 34; refine cR.mono ?_; clear cR; rintro e w1 ⟨A1, n1, k1, rfl, ho1, hb1⟩; have cC := cC w1 hb1; have cP := cP w1 hb1) | (go_at_call 16; refine cC.mono ?_; clear cC; rintro e w2 ⟨rfl, rfl⟩) | (go_at_call 26; refine cP.mono ?_; clear cP; rintro e w2 ⟨rfl, m2, rfl⟩))
    go_loopw [7, 29] (fun v7 v29 wr => ∃ k : Nat, k ≤ n ∧ v29 = .int .i64 k ∧ v7 = .int .i64 0 ∧ wr = w1.drewN m2) (fun _ v29 _ => n - (intOf v29).toNat)
    case atStart => exact ⟨0, by omega, rfl, rfl, rfl⟩
    case round =>
      obtain ⟨k, hk, rfl, rfl, rfl⟩ := hrel
      by_cases hlt : k < n
      · have i1 : (k : Int) < (n : Int) := by omega
        obtain ⟨ad, Ar, nr, cr, e, _, hcr, hlr⟩ := (h.below hb1).rowB hlt
        subst e
        have b1 : ((nr : Int) == 0) = false := by have := HALL.out k hlt; rw [hlr] at this; simp; omega
        clear hlr cQ
        go_wp2
        go_roundw
        case rel => exact ⟨k + 1, by omega, by go_num, by trivial⟩
        case measure => simp [intOf] <;> omega
      · obtain rfl : n = k := by omega
        have i1 : ¬ (n : Int) < (n : Int) := by omega
        have cQ := cQ (w1.drewN m2) (below_drewN hb1 m2)
        have hn1 : n1 ≤ maxLen := by
          have h1 := Own.capLe' ho1
          have h2 := Own.capMax ho1
          omega
        have cI := fun (A2 : Option Addr) (n2 k2 : Nat) (w2 : World) (r1 : Reads w2 w2.heap.size A1 n1 (vn .i64 L)) (r2 : Reads w2 w2.heap.size A2 n2 (vn .i64 L)) => ref_Ints A1 A2 n1 n2 k1 k2 (L.map (fun x : Nat => (x : Int))) (L.map (fun x : Nat => (x : Int))) true w2 (by rw [vi_vnR]; exact r1) (by rw [vi_vnR]; exact r2) hn1 (by simp [Hid])
        go_wp2_with (first | (go_at_call 35; refine cQ.mono ?_; clear cQ; rintro e w3 ⟨A2, n2, k2, rfl, ho2, hb3⟩; have cI := cI A2 n2 k2 w3 ((ho1.drewN m2).below hb3 (Nat.le_refl _)).reads ho2.reads) | (go_at_call 36; refine cI.mono ?_; clear cI; rintro e w4 ⟨rfl, m4, rfl⟩))
        go_ret
        exact ⟨rfl, below_drewN ((below_drewN hb1 m2).trans (hb3.mono hb1.size)) m4⟩
theorem PrefixReads_walk (A : Option Addr) (n c : Nat) (ls : List (List Bool)) (A' : Option Addr) (m c' : Nat) (bits : List Bool) (w : World) (h : Reads2c w w.heap.size A n ls) (hn : n ≤ maxLen) (h' : Reads w w.heap.size A' m (vb bits)) (hc : m ≤ c') (hm : m ≤ 1048576) :
    Calls Try.prog 10 #[.slice A n c, .slice A' m c'] w (LawTrue w) := by
  by_cases h0 : codeErr ls = 0
  · have h8 : n ≤ 8 := by have := (codeErr_ok h0).1; rw [h.plain.length] at this; exact this
    rcases hf : freeB ls n with _ | _
    · exact law_PR_free A A' n c m c' ls w h hn h0 hf
    · rcases hno : noneB ls n with _ | _
      · exact law_PR_main A A' n c m c' ls bits w h h' hc h8 hm h0 hf hno
      · exact law_PR_none A A' n c m c' ls w h hn h0 hf hno
  · exact law_PR_err A A' n c m c' ls _ w h hn h0 rfl
end Go.Proofs.Ytfhpgiidcggobaa

/-
  quipuref.Alpha walked.
-/
import Derived.Test.YtglcljlafioleaaAltt
set_option linter.unusedVariables false
namespace Go.Proofs.Ytglcljlafioleaa
open Go.RowKit

def RetAl (w : World) (ws : List Nat) (e : Ending) (w' : World) : Prop :=
  ∃ A n c, e = .returned (.tuple #[.int .i64 (bestC ws : Int), .slice A n c]) ∧ Reads w' w'.heap.size A n (vn .i64 (bestL ws)) ∧ n ≤ 8 ∧ Below w.heap.size w w'
/-- what quipuref.Alpha keeps -/
def StAl (wr : World) (n : Nat) (s : Option (Nat × List Nat)) (bv lv : Value) : Prop :=
  (s = none ∧ bv = .slice none 0 0 ∧ lv = .int .i64 (-1)) ∨ ∃ c b A cc, s = some (c, b) ∧ lv = .int .i64 ((c : Nat) : Int) ∧ bv = .slice A n cc ∧ Reads wr wr.heap.size A n (vn .i64 b)
set_option maxHeartbeats 1600000 in
theorem ref_Alpha (A : Option Addr) (n c : Nat) (ws : List Nat) (w : World) (h : Reads w w.heap.size A n (vn .i64 ws)) (hn : n ≤ 8) (hw : ∀ x ∈ ws, x ≤ 1048576) :
    Calls Try.prog 17 #[.slice A n c] w (RetAl w ws) := by
  have H := Lib.hid h.nat_len
  have HW := Lib.hid hw
  have ct := ref_trees n hn w
  obtain ⟨T, hT⟩ : ∃ T, treesL n = T := ⟨_, rfl⟩
  rw [hT] at ct
  have HTL : Hid (∀ l ∈ T, l.length = n ∧ ∀ x ∈ l, x ≤ 8) := fun l hl => by
    rw [← hT] at hl
    exact ⟨treesL_len _ hn l hl, fun x hx => Nat.le_trans (treesL_le _ hn l hl x hx) hn⟩
  have HF : Hid (foldB ws T = some (bestC ws, bestL ws)) := by
    unfold Hid
    have := (foldB_all (ws := ws) (by rw [H.out]; exact hn)).1
    rw [H.out, hT] at this
    exact this
  have HT429 : Hid (T.length ≤ 429) := by unfold Hid; rw [← hT]; exact (treesL_many ⟨n, by omega⟩).1
  clear hw hT
  go_enter Try.func17, Try.ntmps17
  go_wp2_with (go_at_call 32; refine ct.mono ?_; clear ct; rintro e w1 ⟨A1, m1, c1, rfl, ho1, hb1⟩)
  obtain ⟨A1', c1', e1⟩ := ho1.ownR.form
  have hm1 : m1 = T.length := by injection e1 with _ e1 _; rw [e1, List.length_map]
  have hm429 : m1 ≤ 429 := by rw [hm1]; exact HT429.out
  have HM1 := Lib.hid hm1
  clear e1 hm1
  have hG : OwnG w1 w.heap.size 38 (.slice A1 m1 c1) (T.map (vn .i64)) none := ho1.ownR.away
  have HG := Lib.hid hG
  have HB1 := Lib.hid hb1
  clear ho1 hb1 hG
  go_loopw [4, 5, 13] (fun bv lv iv wr => ∃ k : Nat, k ≤ m1 ∧ iv = .int .i64 (k : Int) ∧ StAl wr n (foldB ws (T.take k)) bv lv ∧ Below w1.heap.size w1 wr) (fun _ _ iv _ => m1 - (intOf iv).toNat)
  case atStart => exact ⟨0, Nat.zero_le _, rfl, .inl ⟨by simp [foldB], rfl, rfl⟩, Below.refl _ _⟩
  case round =>
    obtain ⟨k, hk, rfl, hst, hbel⟩ := hrel
    obtain ⟨wo, rfl⟩ : ∃ x, x = wr := ⟨_, rfl⟩
    by_cases hlt : k < m1
    · obtain ⟨ad1, xa, A2, n2, c2, e1, hxa, hca, hra, hn2, _⟩ := (HG.out.same hbel).row hlt
      subst e1
      rw [List.getElem?_map] at hxa
      obtain ⟨l, hl, rfl⟩ := Option.map_eq_some_iff.1 hxa
      obtain ⟨hll, hlx⟩ := HTL.out l (mem_at hl)
      obtain rfl : n = n2 := by rw [← hra.nat_len, hll]
      obtain ⟨x, hx⟩ : ∃ x, costL ws l = x := ⟨_, rfl⟩
      have hbw := HB1.out.trans (hbel.mono HB1.out.size)
      have cc := ref_Costs A A2 n c c2 ws l x wo (h.below hbw) hra hn HW.out hlx hx
      have HFN : Hid (foldB ws (T.take (k + 1)) = pickB ws (foldB ws (T.take k)) l) := by unfold Hid; rw [take_next hl, foldB_snoc]
      have i1 : (k : Int) < (m1 : Int) := by omega
      have HX := Lib.hid hx
      have HRA := Lib.hid hra
      have HBEL := Lib.hid hbel
      clear hxa hl hll hlx hx hn2 hra hbel hbw
      rcases hst with ⟨h1, rfl, rfl⟩ | ⟨c0, b, A0, k0, h1, rfl, rfl, hrb⟩
      · have HP : Hid (foldB ws (T.take (k + 1)) = some (x, l)) := by unfold Hid; rw [HFN.out, h1]; unfold pickB; simp only [HX.out]
        clear h1
        go_wp2_with (go_at_call 33; refine cc.mono ?_; clear cc; rintro e w3 ⟨rfl, mq, rfl⟩)
        go_roundw
        case rel => exact ⟨k + 1, by omega, by go_num, .inr ⟨x, l, A2, c2, HP.out, rfl, rfl, HRA.out.drewN mq⟩, below_drewN HBEL.out mq⟩
        case measure => simp [intOf] <;> omega
      · have c00 : ¬ (c0 : Int) < 0 := by omega
        by_cases h2 : x < c0
        · have HP : Hid (foldB ws (T.take (k + 1)) = some (x, l)) := by unfold Hid; rw [HFN.out, h1]; unfold pickB; simp only [HX.out]; rw [if_pos (.inl h2)]
          have t2 : (x : Int) < (c0 : Int) := by omega
          clear h1 hrb
          go_wp2_with (go_at_call 33; refine cc.mono ?_; clear cc; rintro e w3 ⟨rfl, mq, rfl⟩)
          go_roundw
          case rel => exact ⟨k + 1, by omega, by go_num, .inr ⟨x, l, A2, c2, HP.out, rfl, rfl, HRA.out.drewN mq⟩, below_drewN HBEL.out mq⟩
          case measure => simp [intOf] <;> omega
        · have t2 : ¬ (x : Int) < (c0 : Int) := by omega
          by_cases h3 : x = c0
          · subst h3
            have t3 : ((x : Int) == (x : Int)) = true := by simp
            obtain ⟨z, hz⟩ : ∃ z, lessL l b = z := ⟨_, rfl⟩
            have cl := fun mq => ref_Less A2 A0 n c2 k0 l b z (wo.drewN mq) (HRA.out.drewN mq) (hrb.drewN mq) hn hz
            have HRB := Lib.hid hrb
            cases z
            · have HP : Hid (foldB ws (T.take (k + 1)) = some (x, b)) := by unfold Hid; rw [HFN.out, h1]; unfold pickB; simp only [HX.out]; rw [if_neg (by rw [hz]; simp)]
              clear h1 hz hrb
              go_wp2_with (first
                | (go_at_call 33; refine cc.mono ?_; clear cc; rintro e w3 ⟨rfl, mq, rfl⟩)
                | (go_at_call 34; refine (cl _).mono ?_; clear cl; rintro e w3 ⟨rfl, mq2, rfl⟩))
              go_roundw
              case rel => exact ⟨k + 1, by omega, by go_num, .inr ⟨x, b, A0, k0, HP.out, rfl, rfl, by first | exact (HRB.out.drewN _).drewN _ | exact HRB.out.drewN _⟩, by first | exact below_drewN (below_drewN HBEL.out _) _ | exact below_drewN HBEL.out _⟩
              case measure => simp [intOf] <;> omega
            · have HP : Hid (foldB ws (T.take (k + 1)) = some (x, l)) := by unfold Hid; rw [HFN.out, h1]; unfold pickB; simp only [HX.out]; rw [if_pos (.inr ⟨trivial, hz⟩)]
              clear h1 hz hrb
              go_wp2_with (first
                | (go_at_call 33; refine cc.mono ?_; clear cc; rintro e w3 ⟨rfl, mq, rfl⟩)
                | (go_at_call 34; refine (cl _).mono ?_; clear cl; rintro e w3 ⟨rfl, mq2, rfl⟩))
              go_roundw
              case rel => exact ⟨k + 1, by omega, by go_num, .inr ⟨x, l, A2, c2, HP.out, rfl, rfl, by first | exact (HRA.out.drewN _).drewN _ | exact HRA.out.drewN _⟩, by first | exact below_drewN (below_drewN HBEL.out _) _ | exact below_drewN HBEL.out _⟩
              case measure => simp [intOf] <;> omega
          · have HP : Hid (foldB ws (T.take (k + 1)) = some (c0, b)) := by unfold Hid; rw [HFN.out, h1]; unfold pickB; simp only [HX.out]; rw [if_neg (by omega)]
            have t3 : ((x : Int) == (c0 : Int)) = false := by simp; omega
            have HRB := Lib.hid hrb
            clear h1 hrb h3
            go_wp2_with (go_at_call 33; refine cc.mono ?_; clear cc; rintro e w3 ⟨rfl, mq, rfl⟩)
            go_roundw
            case rel => exact ⟨k + 1, by omega, by go_num, .inr ⟨c0, b, A0, k0, HP.out, rfl, rfl, HRB.out.drewN mq⟩, below_drewN HBEL.out mq⟩
            case measure => simp [intOf] <;> omega
    · obtain rfl : m1 = k := by omega
      have hF := HF.out
      rw [List.take_of_length_le (by rw [HM1.out]; exact Nat.le_refl _), hF] at hst
      rcases hst with ⟨h1, _⟩ | ⟨c0, b, A0, k0, h1, rfl, rfl, hrb⟩
      · cases h1
      · injection h1 with h1
        injection h1 with h1 h2
        rw [← h1]
        rw [← h2] at hrb
        have HRB := Lib.hid hrb
        clear hF h1 h2 hrb
        go_wp2
        go_ret2
        exact ⟨A0, n, k0, rfl, HRB.out, hn, HB1.out.trans (hbel.mono HB1.out.size)⟩
end Go.Proofs.Ytglcljlafioleaa

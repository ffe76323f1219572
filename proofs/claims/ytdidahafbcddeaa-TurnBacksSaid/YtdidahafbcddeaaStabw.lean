/-
  slices.SortStableFunc of at most 64 ints, 0 .. M at first: in order by the key, and by the index where the keys are the same.
-/
import Derived.Test.YtdidahafbcddeaaSymq
import Derived.Test.YtdidahafbcddeaaStab
set_option linter.unusedVariables false
namespace Go.Proofs.Ytdidahafbcddeaa
open Go.RowKit Go.Shelf Go.Sort

section
variable {M blk N : Nat} {w0 W : World} {d : Array (Fin (M + 1))}
theorem SrtW.put (S : SrtW M w0 blk 0 N d W) {d' : Array (Fin (M + 1))} (hs : d'.size = N) (n : Nat) : SrtW M w0 blk 0 N d' ((putRow (encF M) W blk 0 d').drewN n) := by
  obtain ⟨q, rfl⟩ := S.eq
  refine ⟨hs, q + n, ?_⟩
  have e : putRow (encF M) ((putRow (encF M) w0 blk 0 d).drewN q) blk 0 d' = (putRow (encF M) (putRow (encF M) w0 blk 0 d) blk 0 d').drewN q := rfl
  rw [e, putRow_putRow _ _ _ _ _ _ (hs.trans S.size.symm), World.drewN_drewN]
theorem SrtW.grown (S : SrtW M w0 blk 0 N d W) : w0.grownBy W (some blk) := by
  obtain ⟨q, rfl⟩ := S.eq
  have := grownBy_put (w := w0) (g := blk) (n := q) (os := #[]) (encF M) d
  rw [grow_empty] at this
  exact this
theorem SrtW.grownS (S : SrtW M w0 blk 0 N d W) (m : Nat) (os : Array Obj) (dk : Array (Fin (M + 1))) : w0.grownBy (sortWorld (encF M) W blk 0 m dk os) (some blk) := by
  have h1 := S.grown
  have h2 := grownBy_put (w := W) (g := blk) (n := m) (os := os) (encF M) dk
  have h3 : W.grownBy (sortWorld (encF M) W blk 0 m dk os) (some blk) := h2
  exact h1.trans h3
end
/-- what is asked of the comparison: it tells the order of the keys, and turns nothing -/
def CmpG (M g : Nat) (cb : Array Value) (cf : Fin (M + 1) → Fin (M + 1) → Int) (w0 : World) (blk : Nat) : Prop :=
  ∀ W, w0.grownBy W (some blk) → ∀ x y : Fin (M + 1), Calls Try.prog g (#[.int .i64 (x.val : Int), .int .i64 (y.val : Int)] ++ cb) W fun e w' => e = .returned (.int .i64 (cf x y)) ∧ ∃ q, w' = W.drewN q
theorem CmpG.f {M g blk N : Nat} {cb : Array Value} {cf : Fin (M + 1) → Fin (M + 1) → Int} {w0 : World} (h : CmpG M g cb cf w0 blk) : CmpF M g cb cf w0 blk 0 N := fun d W S x y => h W S.grown x y
theorem ins_call (M blk N cap a b g : Nat) (cb : Array Value) (cf : Fin (M + 1) → Fin (M + 1) → Int) (key : Fin (M + 1) → Nat) (d : Array (Fin (M + 1))) (w0 w : World) (R : Row0 M w0 blk 0 N) (S : SrtW M w0 blk 0 N d w)
    (eg : ∀ args w, (callFunc g args).run Try.prog w = .ok (.enter g args) w) (HC : CmpG M g cb cf w0 blk) (hk : ∀ x y, cf x y < 0 ↔ key x < key y) (hab : a ≤ b) (hb : b ≤ N) (hN : N ≤ 1000) :
    Calls Try.prog 66 #[.slice (some ⟨blk, 0, none⟩) N cap, .int .i64 (a : Int), .int .i64 (b : Int), .func (.func g) #[] cb] w fun e w' => e = .returned (.tuple #[]) ∧ SrtW M w0 blk 0 N (insertionSort (ltK key) d a b) w' := by
  have c0 := Any.insertionSortCmpFunc_one laysIns (encF M) (fun x => rfl) cf g cb blk 0 cap a b d w eg (fun m os dk hdk x y => HC _ (S.grownS m os dk) x y) (S.holds R) hab (by rw [S.size]; exact hb) (by rw [S.size]; omega)
  rw [S.size] at c0
  have e : ltOf cf = ltK key := by
    funext x y
    unfold ltOf ltK
    rw [Bool.eq_iff_iff]
    simp only [decide_eq_true_eq]
    exact hk x y
  rw [e] at c0
  refine c0.mono ?_
  rintro e w' ⟨rfl, n, rfl⟩
  exact ⟨rfl, S.put (by rw [insertionSort_sz, S.size]) n⟩
/-- what the stable sort leaves -/
def StbP (M : Nat) (key : Fin (M + 1) → Nat) (w0 : World) (blk N : Nat) (d : Array (Fin (M + 1))) (e : Ending) (w' : World) : Prop :=
  e = .returned (.tuple #[]) ∧ ∃ d', SrtW M w0 blk 0 N d' w' ∧ PermIn 0 N d d' ∧ Srt (keyI key) 0 N d'
set_option maxRecDepth 100000 in
set_option maxHeartbeats 1600000 in
theorem stable_cmp (M blk N cap g : Nat) (cb : Array Value) (cf : Fin (M + 1) → Fin (M + 1) → Int) (key : Fin (M + 1) → Nat) (d : Array (Fin (M + 1))) (w0 w : World) (R : Row0 M w0 blk 0 N) (S : SrtW M w0 blk 0 N d w)
    (eg : ∀ args w, (callFunc g args).run Try.prog w = .ok (.enter g args) w) (HC : CmpG M g cb cf w0 blk) (hk : ∀ x y, cf x y < 0 ↔ key x < key y) (hNM : Hid (N = M + 1)) (hN : N ≤ 64) (hd : ∀ i, i < N → (d[i]!).val = i) :
    Calls Try.prog 56 #[.slice (some ⟨blk, 0, none⟩) N cap, .int .i64 (N : Int), .func (.func g) #[] cb] w (StbP M key w0 blk N d) := by
  have HI := Lib.hid (fun a b d1 w1 S1 h1 h2 => ins_call M blk N cap a b g cb cf key d1 w0 w1 R S1 eg HC hk h1 h2 (by omega))
  have HM := Lib.hid (sym_merge M blk 0 cap N g cb cf (keyI key) w0 R eg HC.f (by omega) 1000)
  have HK := Lib.hid hk
  have HV : Hid (∀ (x : Fin (M + 1)), x.val < N) := by unfold Hid; intro x; have := x.isLt; have := hNM.out; omega
  have H0 := Lib.hid (InsS.start (key := key) hd)
  clear HC hk hd eg R
  go_enter Try.func56, Try.ntmps56
  go_wp2
  go_loopw [7, 8] (fun av bv wr => ∃ (a b : Nat) (d' : Array (Fin (M + 1))), av = .int .i64 (a : Int) ∧ bv = .int .i64 (b : Int) ∧ b = a + 20 ∧ a ≤ N ∧ Hid (∃ p, a = p * 20) ∧ SrtW M w0 blk 0 N d' wr ∧ Hid (InsS key N a d d')) (fun av _ _ => N - (intOf av).toNat)
  case atStart => exact ⟨0, 20, d, rfl, rfl, rfl, Nat.zero_le _, ⟨0, rfl⟩, S, H0.out⟩
  case round =>
    obtain ⟨a, b, d1, rfl, rfl, hb, haN, hp, S1, hI⟩ := hrel
    obtain ⟨wo, rfl⟩ : ∃ x, x = wr := ⟨_, rfl⟩
    clear S H0
    by_cases hlt : b ≤ N
    · have i1 : (b : Int) ≤ (N : Int) := by omega
      have cs := HI.out a b d1 wo S1 (by omega) hlt
      have hib := ins_block (key := key) S1.size (show a ≤ b by omega) hlt (hI.out.below hp.out haN) hI.out.same
      have hst := hI.out.step S1.size hp.out (show b = min (a + 20) N by omega) hib.1 hib.2
      have HST := Lib.hid hst
      have hb20 := Lib.hid hb
      generalize insertionSort (ltK key) d1 a b = d2 at *
      clear hib hst hI S1 hb
      go_wp2_with (go_at_call 66; refine cs.mono ?_; clear cs; rintro e w1 ⟨rfl, S2⟩)
      go_roundw
      case rel => exact ⟨b, b + 20, d2, rfl, by go_num, rfl, hlt, ⟨hp.out.choose + 1, by have := hp.out.choose_spec; have := hb20.out; omega⟩, S2, HST.out⟩
      case measure => have := hb20.out; simp [intOf] <;> omega
    · have i1 : ¬ (b : Int) ≤ (N : Int) := by omega
      have cs := HI.out a N d1 wo S1 haN (Nat.le_refl _)
      have hib := ins_block (key := key) S1.size haN (Nat.le_refl _) (hI.out.below hp.out haN) hI.out.same
      have hst := hI.out.step S1.size hp.out (show N = min (a + 20) N by omega) hib.1 hib.2
      have HST := Lib.hid (hst.stg (Nat.le_refl _))
      generalize insertionSort (ltK key) d1 a N = d2 at *
      clear hib hst hI S1 hb
      go_wp2_with (go_at_call 66; refine cs.mono ?_; clear cs; rintro e w1 ⟨rfl, S2⟩)
      go_loopw [6] (fun sv wr => ∃ (s : Nat) (d' : Array (Fin (M + 1))), sv = .int .i64 (s : Int) ∧ (s = 20 ∨ s = 40 ∨ s = 80) ∧ SrtW M w0 blk 0 N d' wr ∧ Hid (Stg key N s 0 d d')) (fun sv _ => 100 - (intOf sv).toNat)
      case atStart => exact ⟨20, d2, rfl, .inl rfl, S2, HST.out⟩
      case round =>
        obtain ⟨s, d3, rfl, hs, S3, hG⟩ := hrel
        obtain ⟨wp, rfl⟩ : ∃ x, x = wr := ⟨_, rfl⟩
        clear S2 HST
        by_cases hsN : s < N
        · have i2 : (s : Int) < (N : Int) := by omega
          have hs2 : s = 20 ∨ s = 40 := by omega
          have HS2 := Lib.hid hs2
          have hsl : 20 ≤ s ∧ s ≤ 40 := by omega
          obtain ⟨hs20, hs40⟩ := hsl
          clear hs hs2
          go_wp2
          go_loopw [7, 8] (fun av bv wr => ∃ (a b : Nat) (d' : Array (Fin (M + 1))), av = .int .i64 (a : Int) ∧ bv = .int .i64 (b : Int) ∧ b = a + 2 * s ∧ a ≤ N ∧ Hid (∃ p, a = p * (2 * s)) ∧ SrtW M w0 blk 0 N d' wr ∧ Hid (Stg key N s a d d')) (fun av _ _ => N - (intOf av).toNat)
          case atStart => exact ⟨0, 2 * s, d3, rfl, by go_num, by omega, Nat.zero_le _, ⟨0, by omega⟩, S3, hG.out⟩
          case round =>
            obtain ⟨a, b, d4, rfl, rfl, hb, haN, hp, S4, hI⟩ := hrel
            obtain ⟨wq, rfl⟩ : ∃ x, x = wr := ⟨_, rfl⟩
            clear S3 hG
            by_cases hlt : b ≤ N
            · have i3 : (b : Int) ≤ (N : Int) := by omega
              obtain ⟨g1, g2, g3⟩ := hI.out.pair (lt := ltC cf) HK.out HS2.out hp.out rfl (show b = min (a + 2 * s) N by omega) (by omega)
              have cs := HM.out a (a + s) b d4 wq (by omega) (by omega) (by omega) hlt S4 g1 g2 g3
              rw [show ((a + s : Nat) : Int) = (a : Int) + (s : Int) by omega] at cs
              have hst : ∀ d', PermIn a b d4 d' → Srt (keyI key) a b d' → Stg key N s b d d' := fun d' h1 h2 => hI.out.step S4.size (fun i _ => HV.out _) HS2.out hp.out haN (show b = min (a + 2 * s) N by omega) h1 h2
              have HST := Lib.hid hst
              have hb20 := Lib.hid hb
              clear g1 g2 g3 hst hI S4 hb
              go_wp2_with (go_at_call 67; refine cs.mono ?_; clear cs; rintro e w1 ⟨rfl, d5, S5, h51, h52⟩)
              go_roundw
              case rel => exact ⟨b, b + 2 * s, d5, rfl, by go_num, rfl, hlt, ⟨hp.out.choose + 1, by have := hp.out.choose_spec; have := hb20.out; rw [Nat.succ_mul]; omega⟩, S5, HST.out d5 h51 h52⟩
              case measure => have := hb20.out; simp [intOf] <;> omega
            · have i3 : ¬ (b : Int) ≤ (N : Int) := by omega
              have hst : ∀ d', PermIn a N d4 d' → Srt (keyI key) a N d' → Stg key N (2 * s) 0 d d' := fun d' h1 h2 => (hI.out.step S4.size (fun i _ => HV.out _) HS2.out hp.out haN (show N = min (a + 2 * s) N by omega) h1 h2).next HS2.out (Nat.le_refl _)
              have HST := Lib.hid hst
              by_cases hm : a + s < N
              · have i4 : (a : Int) + (s : Int) < (N : Int) := by omega
                obtain ⟨g1, g2, g3⟩ := hI.out.pair (lt := ltC cf) HK.out HS2.out hp.out rfl (show N = min (a + 2 * s) N by omega) hm
                have cs := HM.out a (a + s) N d4 wq (by omega) (by omega) hm (Nat.le_refl _) S4 g1 g2 g3
                rw [show ((a + s : Nat) : Int) = (a : Int) + (s : Int) by omega] at cs
                clear g1 g2 g3 hst hI S4 hb
                go_wp2_with (go_at_call 67; refine cs.mono ?_; clear cs; rintro e w1 ⟨rfl, d5, S5, h51, h52⟩)
                go_roundw
                case rel => exact ⟨2 * s, d5, by go_num, by have := HS2.out; omega, S5, HST.out d5 h51 h52⟩
                case measure => simp [intOf] <;> omega
              · have i4 : ¬ (a : Int) + (s : Int) < (N : Int) := by omega
                have g1 := hI.out.lone HS2.out hp.out (by omega)
                rw [show min (a + 2 * s) N = N by omega] at g1
                have HG := Lib.hid (hst d4 (permIn_refl _ _ _) g1)
                clear g1 hst hI hb HST
                go_wp2
                go_roundw
                case rel => exact ⟨2 * s, d4, by go_num, by have := HS2.out; omega, S4, HG.out⟩
                case measure => simp [intOf] <;> omega
        · have i2 : ¬ (s : Int) < (N : Int) := by omega
          have hf := Lib.hid (hG.out.fin (by omega))
          clear hG hs
          go_wp2
          go_end0
          exact ⟨rfl, d3, S3, hf.out.1, hf.out.2⟩
set_option maxHeartbeats 400000 in
theorem stable_func (M blk N cap g : Nat) (cb : Array Value) (cf : Fin (M + 1) → Fin (M + 1) → Int) (key : Fin (M + 1) → Nat) (d : Array (Fin (M + 1))) (w0 w : World) (R : Row0 M w0 blk 0 N) (S : SrtW M w0 blk 0 N d w)
    (eg : ∀ args w, (callFunc g args).run Try.prog w = .ok (.enter g args) w) (HC : CmpG M g cb cf w0 blk) (hk : ∀ x y, cf x y < 0 ↔ key x < key y) (hNM : Hid (N = M + 1)) (hN : N ≤ 64) (hd : ∀ i, i < N → (d[i]!).val = i) :
    Calls Try.prog 38 #[.slice (some ⟨blk, 0, none⟩) N cap, .func (.func g) #[] cb] w (StbP M key w0 blk N d) := by
  have c1 := stable_cmp M blk N cap g cb cf key d w0 w R S eg HC hk hNM hN hd
  clear HC hk hd eg R S
  go_enter Try.func38, Try.ntmps38
  go_wp2_with (go_at_call 56; refine c1.mono ?_; clear c1; rintro e w' ⟨rfl, d', S2, h1, h2⟩)
  go_end0
  exact ⟨rfl, d', S2, h1, h2⟩
end Go.Proofs.Ytdidahafbcddeaa

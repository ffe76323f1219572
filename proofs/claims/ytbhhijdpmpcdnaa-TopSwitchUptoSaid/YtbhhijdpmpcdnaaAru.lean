/-
  The program's moves and the reference's go side by side. Plain words.
-/
import Derived.Test.YtbhhijdpmpcdnaaArt
set_option linter.unusedVariables false
namespace Go.Proofs.Ytbhhijdpmpcdnaa

theorem sim_step {d : Nat} {f : Nat → Nat → Nat} {z : Int} {bl : List Nat} {T : Nat → Nat → Nat} (h : SimD d f z bl T) (h3 : 3 ≤ d) (h6 : d ≤ 6) (kind block : Int) (v : Nat) :
    (doMv d f z kind block v).v = (mvR d bl z kind block v).v ∧ (doMv d f z kind block v).e = (mvR d bl z kind block v).e ∧ (doMv d f z kind block v).z = (mvR d bl z kind block v).z ∧ ∃ T', SimD d (doMv d f z kind block v).f (doMv d f z kind block v).z (mvR d bl z kind block v).bl T' := by
  by_cases hk : kind < 1 ∨ 4 < kind
  · rw [show doMv d f z kind block v = ⟨0, 6, f, z⟩ by unfold doMv; rw [if_pos hk], show mvR d bl z kind block v = ⟨0, 6, bl, z⟩ by unfold mvR; rw [if_pos hk]]
    exact ⟨rfl, rfl, rfl, T, h⟩
  · by_cases hb : block < 0 ∨ (if kind = 3 ∨ kind = 4 then (d : Int) else 24) ≤ block
    · rw [show doMv d f z kind block v = ⟨0, 2, f, z⟩ by unfold doMv; rw [if_neg hk, if_pos hb], show mvR d bl z kind block v = ⟨0, 2, bl, z⟩ by unfold mvR; rw [if_neg hk, if_pos hb]]
      exact ⟨rfl, rfl, rfl, T, h⟩
    · have e1 : doMv d f z kind block v = if kind = 2 then ⟨readD f z d block.toNat, 0, f, z⟩ else if kind = 3 then (if 0 ≤ z then ⟨0, 7, f, z⟩ else ⟨0, 0, zeroTo f block.toNat 0 (rowsD d), block⟩) else if kind = 4 then (if block = z then ⟨0, 0, renewTo f block.toNat d (rowsD d), -1⟩ else ⟨0, 7, f, z⟩) else ⟨0, 0, writeD f z d block.toNat v, z⟩ := by unfold doMv; rw [if_neg hk, if_neg hb]
      have e2 : mvR d bl z kind block v = if kind = 2 then ⟨bl.getD block.toNat 0, 0, bl, z⟩ else if kind = 3 then (if 0 ≤ z then ⟨0, 7, bl, z⟩ else ⟨0, 0, bl, block⟩) else if kind = 4 then (if block = z then ⟨0, 0, bl, -1⟩ else ⟨0, 7, bl, z⟩) else ⟨0, 0, bl.set block.toNat v, z⟩ := by unfold mvR; rw [if_neg hk, if_neg hb]
      rw [e1, e2]
      clear e1 e2
      obtain ⟨b, rfl⟩ := Int.eq_ofNat_of_zero_le (show 0 ≤ block by omega)
      rw [show ((b : Nat) : Int).toNat = b from Int.toNat_natCast b]
      rcases (by omega : kind = 1 ∨ kind = 2 ∨ kind = 3 ∨ kind = 4) with rfl | rfl | rfl | rfl
      · obtain ⟨T', h'⟩ := h.write h3 h6 (b := b) (v := v) (by simp at hb; omega)
        exact ⟨rfl, rfl, rfl, T', h'⟩
      · exact ⟨h.read h3 h6 (by simp at hb; omega), rfl, rfl, T, h⟩
      · have hbd : b < d := by simp at hb; omega
        by_cases hz : 0 ≤ z
        · simp only [hz, if_true]
          exact ⟨rfl, rfl, rfl, T, h⟩
        · simp only [hz, if_false]
          exact ⟨rfl, rfl, rfl, T, h.lose hbd hz⟩
      · have hbd : b < d := by simp at hb; omega
        by_cases hz : (b : Int) = z
        · simp only [hz, if_true]
          exact ⟨rfl, rfl, rfl, T, h.renew hbd hz⟩
        · simp only [hz, if_false]
          exact ⟨rfl, rfl, rfl, T, h⟩
theorem sim_play {d : Nat} (h3 : 3 ≤ d) (h6 : d ≤ 6) (l : List (Int × Int × Nat)) : ∀ k, (playD d l k).outs = (playR d l k).outs ∧ (playD d l k).z = (playR d l k).z ∧ ∃ T, SimD d (playD d l k).f (playD d l k).z (playR d l k).bl T
  | 0 => ⟨rfl, rfl, _, SimD.start d⟩
  | k + 1 => by
    obtain ⟨h1, h2, T, h⟩ := sim_play h3 h6 l k
    cases hm : l[k]? with
    | none => rw [playD, playR, hm]; exact ⟨h1, h2, T, h⟩
    | some m =>
      rw [playD_next hm, playR_next hm]
      obtain ⟨s1, s2, s3, s4⟩ := sim_step h h3 h6 m.1 m.2.1 m.2.2
      rw [← h2]
      exact ⟨by rw [h1, s1, s2], s3, s4⟩
end Go.Proofs.Ytbhhijdpmpcdnaa

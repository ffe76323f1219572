/-
  TopSwitch: what is told at the switch and behind it. Plain words.
-/
import Derived.Test.YtbhhijdpmpcdnaaSwl
set_option linter.unusedVariables false
namespace Go.Proofs.Ytbhhijdpmpcdnaa

/-- a read at the second site where that is the main one -/
theorem rd1_bad (mode d : Nat) (t : PrT ArB) (block : Int) (hb : block < 0 ∨ 24 ≤ block) : stepG (mvB d) mode d t ⟨9, 1, block, 0⟩ = { t with outs := t.outs ++ [(2, 0)] } := by
  unfold stepG
  rw [if_neg (by simp), if_neg (by simp), if_neg (by simp), if_pos (by simp)]
  unfold atG manyG
  simp only
  rw [if_pos trivial, if_pos (by omega)]
theorem rd1_good (mode d : Nat) (t : PrT ArB) (b : Nat) (hb : b < 24) (hm : t.main = 1) : stepG (mvB d) mode d t ⟨9, 1, (b : Int), 0⟩ = { t with outs := t.outs ++ [(0, t.a1.1.getD b 0)] } := by
  have h : mvB d t.a1 (atK 9) (b : Int) 0 = ⟨t.a1, 0, t.a1.1.getD b 0⟩ := by
    rw [show atK 9 = 2 by decide]
    unfold mvB mvR
    rw [if_neg (by omega), if_neg (by simp; omega), if_pos rfl, Int.toNat_natCast]
  unfold stepG
  rw [if_neg (by simp), if_neg (by simp), if_neg (by simp), if_pos (by simp)]
  unfold atG manyG
  simp only
  rw [if_pos trivial, if_neg (by omega), if_neg (by decide), h]
theorem wr1_good (mode d : Nat) (t : PrT ArB) (b c : Nat) (hb : b < 24) (hm : t.main = 1) : stepG (mvB d) mode d t ⟨1, 0, (b : Int), c⟩ = { t with outs := t.outs ++ [(0, 0)], a1 := (t.a1.1.set b c, t.a1.2) } := by
  unfold stepG
  rw [if_neg (by simp), if_pos rfl]
  unfold wrG
  simp only
  rw [if_neg (by omega), if_neg (by omega), mvB_write _ _ _ hb]
section
variable {mode d : Nat} {l : List StS} {block : Int} {more : List Nat}
theorem all_ok (hl : ∀ x ∈ l, x.val < 256) (hm : ∀ b ∈ more, b < 256) : ∀ k, k ≤ (allS l block more).length → PrOk (playG (mvB d) mode d startB (allS l block more) k) k :=
  fun k hk => PrOk.play (mvB d) (allS_val hl block hm) mode d startB k hk
theorem all_main (hl : ∀ x ∈ l, x.val < 256) (hm : ∀ b ∈ more, b < 256) {k : Nat} (h1 : l.length + 1 ≤ k) : (playG (mvB d) mode d startB (allS l block more) k).main = 1 := by
  have hN := allS_len l block more
  have h0 : (playG (mvB d) mode d startB (allS l block more) (l.length + 1)).main = 1 := by
    rw [playG_next _ (allS_sw l block more).1]
    rcases (all_ok (mode := mode) (d := d) (block := block) hl hm l.length (by omega)).mn with h | h
    · unfold stepG
      rw [if_neg (by simp), if_neg (by simp), if_pos rfl]
      unfold chG
      rw [if_neg (by omega)]
    · exact step_main _ _ _ _ _ h
  have := play_main (mvB d) mode d startB (allS l block more) (l.length + 1) h0 (k - (l.length + 1))
  rw [show l.length + 1 + (k - (l.length + 1)) = k by omega] at this
  exact this
theorem all_bad (hl : ∀ x ∈ l, x.val < 256) (hm : ∀ b ∈ more, b < 256) (hb : block < 0 ∨ 24 ≤ block) : (playG (mvB d) mode d startB (allS l block more) (allS l block more).length).outs[l.length + 1]? = some (2, 0) := by
  refine out_at (allS_val hl block hm) (allS_sw l block more).2 ?_
  rw [playG_next _ (allS_sw l block more).2, rd1_bad _ _ _ _ hb]
theorem all_read {b : Nat} (hl : ∀ x ∈ l, x.val < 256) (hm : ∀ b ∈ more, b < 256) (hb : b < 24) : (playG (mvB d) mode d startB (allS l (b : Int) more) (allS l (b : Int) more).length).outs[l.length + 1]? = some (0, (playG (mvB d) mode d startB (allS l (b : Int) more) (l.length + 1)).a1.1.getD b 0) := by
  refine out_at (allS_val hl _ hm) (allS_sw l _ more).2 ?_
  rw [playG_next _ (allS_sw l _ more).2, rd1_good _ _ _ _ hb (all_main hl hm (Nat.le_refl _))]
theorem all_more {b k c : Nat} (hl : ∀ x ∈ l, x.val < 256) (hm : ∀ b ∈ more, b < 256) (hb : b < 24) (hk : more[k]? = some c) : (playG (mvB d) mode d startB (allS l (b : Int) more) (allS l (b : Int) more).length).outs[l.length + 3 + 2 * k]? = some (0, c) := by
  obtain ⟨h1, h2⟩ := allS_mo l (b : Int) hk
  refine out_at (allS_val hl _ hm) h2 ?_
  rw [playG_next _ h2, rd1_good _ _ _ _ hb (all_main hl hm (by omega))]
  simp only
  have e : (playG (mvB d) mode d startB (allS l (b : Int) more) (l.length + 3 + 2 * k)).a1.1.getD b 0 = c := by
    rw [show l.length + 3 + 2 * k = l.length + 2 + 2 * k + 1 by omega, playG_next _ h1, wr1_good _ _ _ _ _ hb (all_main hl hm (by omega))]
    have := play_len mode d (allS l (b : Int) more) (l.length + 2 + 2 * k)
    simp only
    rw [List.getD_eq_getElem?_getD, List.getElem?_set_self (by omega)]
    rfl
  rw [e]
theorem all_sw1 (hl : ∀ x ∈ l, x.val < 256) (hm : ∀ b ∈ more, b < 256) (h : (playG (mvB d) mode d startB (allS l block more) l.length).main = 1) : (playG (mvB d) mode d startB (allS l block more) (allS l block more).length).outs[l.length]? = some (7, 0) := by
  refine out_at (allS_val hl block hm) (allS_sw l block more).1 ?_
  rw [playG_next _ (allS_sw l block more).1]
  unfold stepG
  rw [if_neg (by simp), if_neg (by simp), if_pos rfl]
  unfold chG
  rw [if_pos h]
theorem sw_next (h : (playG (mvB d) mode d startB (allS l block more) l.length).main = 0) : ∃ t, playG (mvB d) mode d startB (allS l block more) l.length = t ∧ playG (mvB d) mode d startB (allS l block more) (l.length + 1) = { t with outs := t.outs ++ [(0, 0)], told := tellG mode t, a1 := putW (mvB d) t.a1 ((t.ws.take t.g).drop t.p), p := t.g, main := 1 } := by
  refine ⟨_, rfl, ?_⟩
  rw [playG_next _ (allS_sw l block more).1]
  unfold stepG
  rw [if_neg (by simp), if_neg (by simp), if_pos rfl]
  unfold chG
  rw [if_neg (by omega)]
theorem all_sw0 (hl : ∀ x ∈ l, x.val < 256) (hm : ∀ b ∈ more, b < 256) (h : (playG (mvB d) mode d startB (allS l block more) l.length).main = 0) :
    (playG (mvB d) mode d startB (allS l block more) (allS l block more).length).outs[l.length]? = some (0, 0) ∧
    (playG (mvB d) mode d startB (allS l block more) (l.length + 1)).a1.1 = bputs (List.replicate 24 0) ((playG (mvB d) mode d startB (allS l block more) l.length).ws.take (playG (mvB d) mode d startB (allS l block more) l.length).g) ∧
    (playG (mvB d) mode d startB (allS l block more) (allS l block more).length).told = tellG mode (playG (mvB d) mode d startB (allS l block more) l.length) := by
  have hN := allS_len l block more
  obtain ⟨t, ht, hn⟩ := sw_next h
  have hok := all_ok (mode := mode) (d := d) (block := block) hl hm l.length (by omega)
  have hinv := sw_play (mode := mode) (d := d) (l := allS l block more) (n := l.length) (by omega) h (fun j hj => all_ok hl hm j (by omega)) l.length (Nat.le_refl _)
  refine ⟨?_, ?_, ?_⟩
  · refine out_at (allS_val hl block hm) (allS_sw l block more).1 ?_
    rw [hn, ht]
  · rw [hn, ht]
    rw [ht] at hok hinv
    have hin : ∀ y ∈ (t.ws.take t.g).drop t.p, InB y := fun y hy => wsIn hok y (List.mem_of_mem_take (List.mem_of_mem_drop hy))
    show (putW (mvB d) t.a1 ((t.ws.take t.g).drop t.p)).1 = _
    rw [putW_bl _ _ hin, hinv.bl, ← bputs_app]
    congr 1
    have e : (t.ws.take t.g).take t.p = t.ws.take t.p := by rw [List.take_take, Nat.min_eq_left hok.le1]
    rw [← e, List.take_append_drop]
  · have h1 : (playG (mvB d) mode d startB (allS l block more) (l.length + 1)).main = 1 := all_main hl hm (Nat.le_refl _)
    have h2 := play_told mode d (allS l block more) (l.length + 1) h1 ((allS l block more).length - (l.length + 1))
    rw [show l.length + 1 + ((allS l block more).length - (l.length + 1)) = (allS l block more).length by omega] at h2
    rw [h2, hn, ht]
/-- a step of the script while the first site is the main one: what is told of it, and the writes -/
theorem all_step (hl : ∀ x ∈ l, x.val < 256) (hm : ∀ b ∈ more, b < 256) (h : (playG (mvB d) mode d startB (allS l block more) l.length).main = 0) {k : Nat} {x : StS} (hx : l[k]? = some x) :
    ∃ e v, (playG (mvB d) mode d startB (allS l block more) (allS l block more).length).outs[k]? = some (e, v) ∧ (x.kind = 1 → e = 0 → (playG (mvB d) mode d startB (allS l block more) (k + 1)).ws = (playG (mvB d) mode d startB (allS l block more) k).ws ++ [x]) ∧ (¬ (x.kind = 1 ∧ e = 0) → (playG (mvB d) mode d startB (allS l block more) (k + 1)).ws = (playG (mvB d) mode d startB (allS l block more) k).ws) := by
  have hN := allS_len l block more
  have hk : k < l.length := (List.getElem?_eq_some_iff.1 hx).1
  have hx' : (allS l block more)[k]? = some x := by rw [allS_old _ _ hk]; exact hx
  have hoks : ∀ j, j ≤ l.length → PrOk (playG (mvB d) mode d startB (allS l block more) j) j := fun j hj => all_ok hl hm j (by omega)
  have h1 := main_mono (k := k + 1) (by omega) h hoks
  have hinv := sw_play (mode := mode) (d := d) (l := allS l block more) (n := l.length) (by omega) h hoks k (by omega)
  rw [playG_next _ hx'] at h1
  obtain ⟨_, e, v, ho, h2, h3⟩ := sw_inv x (hoks k (by omega)) h1 hinv
  rw [← playG_next _ hx'] at ho h2 h3
  exact ⟨e, v, out_at (allS_val hl block hm) hx' ho, h2, h3⟩
end
end Go.Proofs.Ytbhhijdpmpcdnaa

import Derived.Test.YtpbffbhebdcpbaaPrefix
import Derived.Test.YtpbffbhebdcpbaaBools
import Derived.Test.YtpbffbhebdcpbaaEqBools
import Derived.Test.YtpbffbhebdcpbaaQuiet
set_option linter.unusedVariables false
namespace Go.Proofs.Ytpbffbhebdcpbaa
open Go.RowKit

/-- is a the beginning of b? -/
def begB (a b : List Bool) : Bool := decide (a.length ≤ b.length) && decide (a = b.take a.length)
theorem begB_long {a b : List Bool} (h : b.length < a.length) : begB a b = false := by simp [begB]; omega
theorem begB_eq {a b : List Bool} (h : a.length ≤ b.length) : begB a b = decide (a = b.take a.length) := by simp [begB, h]
theorem Reads.takeBo {w : World} {B n k : Nat} {A : Option Addr} {l : List Bool} (h : Reads w B A n (vb l)) (hk : k ≤ n) : Reads w B A k (vb (l.take k)) := by
  have := h.take hk
  rwa [← List.map_take] at this
set_option maxHeartbeats 400000 in
theorem prefix_Begins (A A' : Option Addr) (n n' c c' : Nat) (a b : List Bool) (w : World) {B B' : Nat} (h : Reads w B A n (vb a)) (h' : Reads w B' A' n' (vb b)) (hn : n ≤ maxLen) (hn' : n' ≤ maxLen) (hc : n' ≤ c') :
    Calls Try.prog 44 #[.slice A n c, .slice A' n' c'] w (RetQ w (.bool (begB a b))) := by
  have H := h.bool_len
  have H' := h'.bool_len
  by_cases hle : n ≤ n'
  · have HB : Hid (decide (a = b.take n) = begB a b) := by unfold Hid; rw [begB_eq (by omega), H]
    have hi : (n : Int) ≤ (n' : Int) := by omega
    rcases A' with _ | ad
    · have h0 : n' = 0 := by
        rcases Nat.eq_zero_or_pos n' with h0 | h0
        · exact h0
        · obtain ⟨ad, e, _⟩ := h'.cells h0; cases e
      subst h0
      have h0 : n = 0 := by omega
      subst h0
      have ce := fun (q : Nat) => equal_bools A none 0 0 c q a (b.take 0) (begB a b) w h (h'.takeBo (Nat.le_refl _)) (by unfold maxLen; omega) HB
      clear H H' hle hi hn hn' hc
      go_enter Try.func44, Try.ntmps44
      go_wp2_with (go_at_call 58; refine (ce _).mono ?_; rintro e w' ⟨rfl, m, rfl⟩)
      go_ret
      exact ⟨rfl, m, rfl⟩
    · have hnc : n ≤ c' := by omega
      have ce := fun (q : Nat) => equal_bools A (some ad) n n c q a (b.take n) (begB a b) w h (h'.takeBo hle) hn HB
      unfold maxLen at hn hn'
      clear H H' hle
      go_enter Try.func44, Try.ntmps44
      go_wp2_with (go_at_call 58; refine (ce _).mono ?_; rintro e w' ⟨rfl, m, rfl⟩)
      go_ret
      exact ⟨rfl, m, rfl⟩
  · have HB : Hid (begB a b = false) := begB_long (by omega)
    have hi : ¬ (n : Int) ≤ (n' : Int) := by omega
    go_enter Try.func44, Try.ntmps44
    go_wp2
    go_ret
    exact ⟨ret_b HB.out.symm, 0, rfl⟩
set_option maxHeartbeats 400000 in
theorem ref_Begins (A A' : Option Addr) (n n' c c' : Nat) (a b : List Bool) (w : World) {B B' : Nat} (h : Reads w B A n (vb a)) (h' : Reads w B' A' n' (vb b)) (hn : n ≤ maxLen) (hn' : n' ≤ maxLen) (hc : n' ≤ c') :
    Calls Try.prog 28 #[.slice A n c, .slice A' n' c'] w (RetQ w (.bool (begB a b))) := by
  have H := h.bool_len
  have H' := h'.bool_len
  by_cases hle : n ≤ n'
  · have HB : Hid (decide (a = b.take n) = begB a b) := by unfold Hid; rw [begB_eq (by omega), H]
    have hi : (n : Int) ≤ (n' : Int) := by omega
    rcases A' with _ | ad
    · have h0 : n' = 0 := by
        rcases Nat.eq_zero_or_pos n' with h0 | h0
        · exact h0
        · obtain ⟨ad, e, _⟩ := h'.cells h0; cases e
      subst h0
      have h0 : n = 0 := by omega
      subst h0
      have ce := fun (q : Nat) => ref_Bools A none 0 0 c q a (b.take 0) (begB a b) w h (h'.takeBo (Nat.le_refl _)) (by unfold maxLen; omega) HB
      clear H H' hle hi hn hn' hc
      go_enter Try.func28, Try.ntmps28
      go_wp2_with (go_at_call 9; refine (ce _).mono ?_; rintro e w' ⟨rfl, m, rfl⟩)
      go_ret
      exact ⟨rfl, m, rfl⟩
    · have hnc : n ≤ c' := by omega
      have ce := fun (q : Nat) => ref_Bools A (some ad) n n c q a (b.take n) (begB a b) w h (h'.takeBo hle) hn HB
      unfold maxLen at hn hn'
      clear H H' hle
      go_enter Try.func28, Try.ntmps28
      go_wp2_with (go_at_call 9; refine (ce _).mono ?_; rintro e w' ⟨rfl, m, rfl⟩)
      go_ret
      exact ⟨rfl, m, rfl⟩
  · have HB : Hid (begB a b = false) := begB_long (by omega)
    have hi : ¬ (n : Int) ≤ (n' : Int) := by omega
    go_enter Try.func28, Try.ntmps28
    go_wp2
    go_ret
    exact ⟨ret_b HB.out.symm, 0, rfl⟩

theorem Reads2c.row {w : World} {B : Nat} {A : Option Addr} {n : Nat} {ls : List (List Bool)} (h : Reads2c w B A n ls) {k : Nat} (hk : k < n) :
    ∃ ad l A' n' c', A = some ad ∧ ls[k]? = some l ∧ w.cell? (ad.add k) = some (.slice A' n' c') ∧ Reads w B A' n' (vb l) ∧ n' ≤ maxLen ∧ l.length = n' ∧ n' ≤ c' := by
  obtain ⟨vs, hv, hl, he⟩ := h
  obtain ⟨ad, u, rfl, hb, hx, hc⟩ := hv.at_ hk
  have hk' : k < ls.length := by rw [← hl, hv.len]; exact hk
  obtain ⟨A', n', c', e, h2, h3, h4⟩ := he k _ (List.getElem?_eq_getElem hk')
  rw [hx] at e
  injection e with e
  subst e
  exact ⟨ad, ls[k], A', n', c', rfl, List.getElem?_eq_getElem hk', hc, h2, h3, h2.bool_len, h4⟩
theorem Reads2c.drewN {w : World} {B : Nat} {A : Option Addr} {n : Nat} {ls : List (List Bool)} (h : Reads2c w B A n ls) (m : Nat) : Reads2c (w.drewN m) B A n ls := by
  obtain ⟨vs, hv, hl, he⟩ := h
  exact ⟨vs, hv.drewN m, hl, fun k l hk => by obtain ⟨A', n', c', e, h2, h3⟩ := he k l hk; exact ⟨A', n', c', e, h2.drewN m, h3⟩⟩
theorem Reads2c.below {w w' : World} {B : Nat} {A : Option Addr} {n : Nat} {ls : List (List Bool)} (h : Reads2c w B A n ls) (hb : Below B w w') : Reads2c w' B A n ls := by
  obtain ⟨vs, hv, hl, he⟩ := h
  exact ⟨vs, hv.below hb, hl, fun k l hk => by obtain ⟨A', n', c', e, h2, h3⟩ := he k l hk; exact ⟨A', n', c', e, h2.below hb, h3⟩⟩
theorem Reads2c.more {w : World} {B B' : Nat} {A : Option Addr} {n : Nat} {ls : List (List Bool)} (h : Reads2c w B A n ls) (hB : B ≤ B') : Reads2c w B' A n ls := by
  obtain ⟨vs, hv, hl, he⟩ := h
  exact ⟨vs, hv.more hB, hl, fun k l hk => by obtain ⟨A', n', c', e, h2, h3⟩ := he k l hk; exact ⟨A', n', c', e, h2.more hB, h3⟩⟩

/-- does the i-th word begin the j-th, another one? -/
def hitP (ls : List (List Bool)) (i j : Nat) : Bool := (i != j) && begB (ls.getD i []) (ls.getD j [])
def freeB (ls : List (List Bool)) (n : Nat) : Bool := (List.range n).all fun i => (List.range n).all fun j => !hitP ls i j
theorem freeB_true {ls : List (List Bool)} {n : Nat} (h : ∀ i, i < n → ∀ j, j < n → hitP ls i j = false) : freeB ls n = true := by
  unfold freeB
  rw [List.all_eq_true]
  intro i hi
  rw [List.all_eq_true]
  intro j hj
  rw [h i (List.mem_range.1 hi) j (List.mem_range.1 hj)]; rfl
theorem freeB_false {ls : List (List Bool)} {n i j : Nat} (hi : i < n) (hj : j < n) (h : hitP ls i j = true) : freeB ls n = false := by
  unfold freeB
  rw [List.all_eq_false]
  refine ⟨i, List.mem_range.2 hi, ?_⟩
  rw [Bool.not_eq_true, List.all_eq_false]
  exact ⟨j, List.mem_range.2 hj, by rw [h]; simp⟩
theorem hit_next {ls : List (List Bool)} {i j : Nat} (h : ∀ j', j' < j → hitP ls i j' = false) (h2 : hitP ls i j = false) : ∀ j', j' < j + 1 → hitP ls i j' = false := fun j' hj => by
  rcases Nat.lt_or_ge j' j with h3 | h3
  · exact h j' h3
  · obtain rfl : j' = j := by omega
    exact h2
theorem hit_row {ls : List (List Bool)} {i n : Nat} (h : ∀ i', i' < i → ∀ j, j < n → hitP ls i' j = false) (h2 : ∀ j, j < n → hitP ls i j = false) : ∀ i', i' < i + 1 → ∀ j, j < n → hitP ls i' j = false := fun i' hi j hj => by
  rcases Nat.lt_or_ge i' i with h3 | h3
  · exact h i' h3 j hj
  · obtain rfl : i' = i := by omega
    exact h2 j hj
end Go.Proofs.Ytpbffbhebdcpbaa

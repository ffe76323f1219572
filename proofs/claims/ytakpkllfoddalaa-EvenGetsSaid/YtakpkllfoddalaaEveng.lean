import Derived.Test.YtakpkllfoddalaaEvenp
import Derived.Test.YtakpkllfoddalaaQuiet
set_option linter.unusedVariables false
namespace Go.Proofs.Ytakpkllfoddalaa
open Go.RowKit

theorem Reads.takeB {w : World} {B n k : Nat} {A : Option Addr} {l : List Bool} (h : Reads w B A n (vb l)) (hk : k ≤ n) : Reads w B A k (vb (l.take k)) := by
  have := h.take hk
  rwa [← List.map_take] at this

def decB (f : Nat → Bool) : Nat → Nat
  | 0 => 0
  | i + 1 => 2 * decB f i + if f i then 1 else 0
theorem decB_lt (f : Nat → Bool) (i : Nat) : decB f i < 2 ^ i := by
  induction i with
  | zero => simp [decB]
  | succ i ih => rw [decB, Nat.pow_succ]; split <;> omega
theorem decB_congr {f g : Nat → Bool} {n : Nat} (h : ∀ i, i < n → f i = g i) : decB f n = decB g n := by
  induction n with
  | zero => rfl
  | succ n ih => rw [decB, decB, ih (fun i hi => h i (by omega)), h n (by omega)]
theorem dec_enc : ∀ k : Fin 16, decB (fun j => (enc (digitsL k.val 4)).getD (2 * j) false) 4 = k.val := by decide
theorem turnL_get (l : List Bool) (k i : Nat) : (turnL l k)[i]? = (l[i]?).map fun x => if i < k then !x else x := by
  unfold turnL
  by_cases hk : i < k
  · by_cases hl : i < l.length
    · rw [List.getElem?_append_left (by simp; omega), List.getElem?_map, List.getElem?_take, if_pos hk]
      simp [hk]
    · rw [List.getElem?_eq_none (by simp; omega), List.getElem?_eq_none (by omega)]; rfl
  · rw [List.getElem?_append_right (by simp; omega), List.getElem?_drop]
    simp only [hk, if_false, List.length_map, List.length_take]
    by_cases hkl : k ≤ l.length
    · rw [show k + (i - min k l.length) = i from by omega]; simp
    · rw [List.getElem?_eq_none (by omega), List.getElem?_eq_none (by omega)]; rfl
theorem turnL_inj {l : List Bool} {k j : Nat} (hk : k ≤ l.length) (hj : j ≤ l.length) (h : turnL (turnL l k) j = l) : j = k := by
  rcases Nat.lt_trichotomy j k with hlt | he | hlt
  · exfalso
    have hx : l[j]? = some (l[j]'(by omega)) := List.getElem?_eq_getElem (by omega)
    have := congrArg (fun t => t[j]?) h
    simp only [turnL_get, hx, Option.map_some, Nat.lt_irrefl, if_false, hlt, if_true] at this
    injection this with this
    cases hb : l[j]'(by omega) <;> rw [hb] at this <;> simp at this
  · exact he
  · exfalso
    have hx : l[k]? = some (l[k]'(by omega)) := List.getElem?_eq_getElem (by omega)
    have := congrArg (fun t => t[k]?) h
    simp only [turnL_get, hx, Option.map_some, Nat.lt_irrefl, if_false, hlt, if_true] at this
    injection this with this
    cases hb : l[k]'(by omega) <;> rw [hb] at this <;> simp at this
def atB (l : List Bool) (n : Nat) (j : Nat) : Bool := l.getD (n + 2 * j) false
theorem get_dec {l : List Bool} {n k : Nat} (hl : l.length = n + 8) (hn : n % 2 = 0) (hn12 : n ≤ 12) (hk : k ≤ n) (h : putL (turnL (l.take n) k) = l) : decB (atB l n) 4 = k := by
  have hL : (l.take n).length = n := by rw [List.length_take]; omega
  obtain ⟨hK, _, _⟩ := evK_ok (turnL (l.take n) k) (by rw [turnL_len, hL]; exact hn)
  rw [turnL_len, hL] at hK
  unfold putL at h
  generalize evK (turnL (l.take n) k) = K at *
  have hlen : (turnL (turnL (l.take n) k) K).length = n := by rw [turnL_len, turnL_len, hL]
  have h1 : turnL (turnL (l.take n) k) K = l.take n := by
    have := congrArg (List.take n) h
    rwa [List.take_append_of_le_length (by omega), List.take_of_length_le (by omega)] at this
  have hKk := turnL_inj (by omega) (by omega) h1
  subst hKk
  have hd := dec_enc ⟨K, by omega⟩
  refine Eq.trans ?_ hd
  refine decB_congr fun j hj => ?_
  show l.getD (n + 2 * j) false = (enc (digitsL K 4)).getD (2 * j) false
  simp only [List.getD]
  conv => lhs; rw [← h]
  rw [List.getElem?_append_right (by omega), hlen, show n + 2 * j - n = 2 * j from by omega]

/-- what Get comes to -/
def EvGet (w : World) (t : List Bool) (e : Ending) (w' : World) : Bool → Prop
  | true => Below w.heap.size w w' ∧ ∃ A' n' c', e = .returned (.tuple #[.slice A' n' c', .int .i64 0]) ∧ Own w' w.heap.size 4 (.slice A' n' c') (vb t)
  | false => Below w.heap.size w w' ∧ e = .returned (.tuple #[.slice none 0 0, .int .i64 3])

set_option maxHeartbeats 600000 in
theorem even_Get (A : Option Addr) (N c : Nat) (l : List Bool) (n : Nat) (w : World) (h : Reads w w.heap.size A N (vb l)) (hc : N ≤ c) (hN : N = n + 8) (hn12 : n ≤ 12) (hn2 : n % 2 = 0) (K : Nat) (hK : Hid (decB (atB l n) 4 = K)) (ok : Bool) (hok : Hid (decide (K ≤ n ∧ putL (turnL (l.take n) K) = l) = ok)) :
    Calls Try.prog 43 #[.slice A N c] w (fun e w' => EvGet w (turnL (l.take n) K) e w' ok) := by
  have H := Lib.hid h.bool_len
  have hNi : (N : Int) - 8 = (n : Int) := by omega
  have hN1 : N ≤ n + 8 := by omega
  have hN2 : n + 8 ≤ N := by omega
  clear hN
  have e1 : ((n : Int) % 2 == 1) = false := by simp; omega
  have d1 : decide ((20 : Int) < N) = false := decide_eq_false (by omega)
  have d2 : decide ((n : Int) < 0) = false := decide_eq_false (by omega)
  obtain ⟨ad, e⟩ := h.addr (by omega)
  subst e
  have hr := h.takeB (k := n) (by omega)
  have hcn : n ≤ c := by omega
  go_enter Try.func43, Try.ntmps43
  go_wp2
  go_loop [5, 23] (fun v i => ∃ k : Nat, k ≤ 4 ∧ i = .int .i64 k ∧ v = .int .i64 (decB (atB l n) k)) (fun _ i => 4 - (intOf i).toNat)
  case atStart => exact ⟨0, by omega, rfl, rfl⟩
  case round =>
    obtain ⟨k, hk, rfl, rfl⟩ := hrel
    by_cases hlt : k < 4
    · obtain ⟨ix, hix⟩ : ∃ ix : Nat, ix = n + 2 * k := ⟨_, rfl⟩
      obtain ⟨ad2, x, e2, hb, hx, hcx⟩ := h.bool_at (k := ix) (by omega)
      injection e2 with e2
      subst e2
      have hii : (n : Int) + 2 * (k : Int) = (ix : Int) := by omega
      have hAt : atB l n k = x := by unfold atB; rw [← hix]; simp only [List.getD, hx, Option.getD_some]
      have HB : Hid (decB (atB l n) (k + 1) = 2 * decB (atB l n) k + if x then 1 else 0) := by unfold Hid; rw [decB, hAt]
      have hlt2 := decB_lt (atB l n) k
      have hpw : 2 ^ k ≤ 2 ^ 4 := Nat.pow_le_pow_right (by omega) (by omega)
      have hq : decB (atB l n) k ≤ 16 := by omega
      have i1 : (0 : Int) ≤ (ix : Int) := by omega
      have i2 : (ix : Int) < (N : Int) := by omega
      clear hx hAt hlt2 hpw hix
      generalize decB (atB l n) k = q at *
      cases x
      · go_wp2
        go_round
        case rel => exact ⟨k + 1, by omega, by go_num, by rw [HB.out]; simp; go_num⟩
        case measure => simp [intOf]; omega
      · go_wp2
        go_round
        case rel => exact ⟨k + 1, by omega, by go_num, by rw [HB.out]; simp; go_num⟩
        case measure => simp [intOf]; omega
    · obtain rfl : k = 4 := by omega
      rw [hK.out]
      by_cases hKn : K ≤ n
      · have c1 := even_turned (some ad) n c (l.take n) K w hr (by omega) hKn
        have hev : evenErr n = 0 := by unfold evenErr; rw [if_neg (by omega), if_neg (by omega)]
        have c2 := fun (A' : Option Addr) (n' c' : Nat) (w' : World) (ho : Own w' w.heap.size 4 (.slice A' n' c') (vb (turnL (l.take n) K))) (hn' : Hid (n' = n)) => even_Put A' n' c' (turnL (l.take n) K) w' ho.reads (by rw [hn'.out]; exact hev)
        have hL : (turnL (l.take n) K).length = n := by rw [turnL_len, List.length_take, H.out]; omega
        have HL := Lib.hid hL
        have hPL := putL_len (turnL (l.take n) K)
        rw [hL] at hPL
        have HPL := Lib.hid hPL
        clear hL hev hPL
        have hKi : ¬ (n : Int) < (K : Int) := by omega
        by_cases heq : putL (turnL (l.take n) K) = l
        · obtain rfl : ok = true := by rw [← hok.out]; exact decide_eq_true ⟨hKn, heq⟩
          have HE := Lib.hid heq
          clear heq hNi
          generalize hT : turnL (l.take n) K = t at *
          have HT := Lib.hid hT
          clear hT
          go_wp2_with (first | (go_at_call 57; refine c1.mono ?_; rintro e w1 ⟨A1, n1, k1, rfl, ho1, hb1⟩; have hn1 : Hid (n1 = n) := (by unfold Hid; rw [← ho1.len, List.length_map, HL.out])) | (go_at_call 38; refine (c2 _ _ _ _ ho1 hn1).mono ?_; rintro e w2 ⟨A2, n2, k2, rfl, ho2, hb2⟩; have c4 := equal_bools A2 (some ad) n2 N k2 c _ _ true w2 ho2.reads ((h.below hb1).below (hb2.mono hb1.size)) (by rw [← ho2.len, List.length_map, HPL.out]; unfold maxLen; omega) (by simp [Hid, HE.out])) | (go_at_call 72; refine c4.mono ?_; rintro e w3 ⟨rfl, m3, rfl⟩))
          go_ret2
          exact ⟨below_drewN (hb1.trans (hb2.mono hb1.size)) _, A1, n1, k1, rfl, by rw [HT.out]; exact (ho1.below hb2 (Nat.le_refl _)).drewN _⟩
        · obtain rfl : ok = false := by rw [← hok.out]; exact decide_eq_false (fun h => heq h.2)
          have HE := Lib.hid heq
          clear heq hNi
          generalize hT : turnL (l.take n) K = t at *
          have HT := Lib.hid hT
          clear hT
          go_wp2_with (first | (go_at_call 57; refine c1.mono ?_; rintro e w1 ⟨A1, n1, k1, rfl, ho1, hb1⟩; have hn1 : Hid (n1 = n) := (by unfold Hid; rw [← ho1.len, List.length_map, HL.out])) | (go_at_call 38; refine (c2 _ _ _ _ ho1 hn1).mono ?_; rintro e w2 ⟨A2, n2, k2, rfl, ho2, hb2⟩; have c4 := equal_bools A2 (some ad) n2 N k2 c _ _ false w2 ho2.reads ((h.below hb1).below (hb2.mono hb1.size)) (by rw [← ho2.len, List.length_map, HPL.out]; unfold maxLen; omega) (by simp [Hid]; exact HE.out)) | (go_at_call 72; refine c4.mono ?_; rintro e w3 ⟨rfl, m3, rfl⟩))
          go_ret2
          exact ⟨below_drewN (hb1.trans (hb2.mono hb1.size)) _, rfl⟩
      · obtain rfl : ok = false := by rw [← hok.out]; exact decide_eq_false (fun h => hKn h.1)
        have hKi : (n : Int) < (K : Int) := by omega
        clear hNi
        go_wp2
        go_ret2
        exact ⟨Below.refl _ _, rfl⟩

def getErr (N : Nat) : Int := if 20 < N then 1 else if N < 8 ∨ N % 2 = 1 then 3 else 0
set_option maxHeartbeats 400000 in
theorem even_Get_err (A : Option Addr) (N c : Nat) (z : Int) (w : World) (hm : N ≤ maxLen) (hz : Hid (getErr N = z)) (h0 : z ≠ 0) :
    Calls Try.prog 43 #[.slice A N c] w (Ret w (.tuple #[.slice none 0 0, .int .i64 z])) := by
  unfold maxLen at hm
  by_cases h1 : 20 < N
  · have HZ : Hid (z = 1) := by unfold Hid; rw [← hz.out, getErr, if_pos h1]
    go_enter Try.func43, Try.ntmps43
    go_wp2
    go_ret2
    exact ⟨by rw [HZ.out]; rfl, rfl⟩
  · have h2 : N < 8 ∨ N % 2 = 1 := by
      by_cases h : N < 8 ∨ N % 2 = 1
      · exact h
      · exfalso; apply h0; rw [← hz.out, getErr, if_neg h1, if_neg h]
    have HZ : Hid (z = 3) := by unfold Hid; rw [← hz.out, getErr, if_neg h1, if_pos h2]
    clear h0
    by_cases h3 : N < 8
    · clear h2
      go_enter Try.func43, Try.ntmps43
      go_wp2
      go_ret2
      exact ⟨by rw [HZ.out]; rfl, rfl⟩
    · obtain ⟨n, hN⟩ : ∃ n, N = n + 8 := ⟨N - 8, by omega⟩
      have hNi : (N : Int) - 8 = (n : Int) := by omega
      have hN1 : N ≤ n + 8 := by omega
      have hN2 : n + 8 ≤ N := by omega
      have e1 : ((n : Int) % 2 == 1) = true := by simp; omega
      have d2 : decide ((n : Int) < 0) = false := decide_eq_false (by omega)
      clear h2 hN
      go_enter Try.func43, Try.ntmps43
      go_wp2
      go_ret2
      exact ⟨by rw [HZ.out]; rfl, rfl⟩

set_option maxHeartbeats 600000 in
theorem ref_EvenGet (A : Option Addr) (N c : Nat) (l : List Bool) (n : Nat) (w : World) (h : Reads w w.heap.size A N (vb l)) (hc : N ≤ c) (hN : N = n + 8) (hn12 : n ≤ 12) (hn2 : n % 2 = 0) (K : Nat) (hK : K ≤ n) (heq : Hid (putL (turnL (l.take n) K) = l)) (hno : Hid (∀ j, j ≤ n → j ≠ K → putL (turnL (l.take n) j) ≠ l)) :
    Calls Try.prog 44 #[.slice A N c] w (fun e w' => ∃ A' n' c', e = .returned (.tuple #[.slice A' n' c', .bool true]) ∧ Own w' w.heap.size 4 (.slice A' n' c') (vb (turnL (l.take n) K)) ∧ Below w.heap.size w w') := by
  have H := Lib.hid h.bool_len
  have hNi : (N : Int) - 8 = (n : Int) := by omega
  have hN1 : N ≤ n + 8 := by omega
  have hN2 : n + 8 ≤ N := by omega
  clear hN
  have e1 : ((n : Int) % 2 == 1) = false := by simp; omega
  have d2 : decide ((n : Int) < 0) = false := decide_eq_false (by omega)
  obtain ⟨ad, e⟩ := h.addr (by omega)
  subst e
  have hr := h.takeB (k := n) (by omega)
  have hcn : n ≤ c := by omega
  have hev : Hid (evenErr n = 0) := by unfold Hid evenErr; rw [if_neg (by omega), if_neg (by omega)]
  go_enter Try.func44, Try.ntmps44
  go_wp2
  clear hNi
  go_loopw [5] (fun i wr => ∃ j : Nat, j ≤ K ∧ i = .int .i64 j ∧ Below w.heap.size w wr) (fun i _ => K + 1 - (intOf i).toNat)
  case atStart => exact ⟨0, by omega, rfl, Below.refl _ _⟩
  case round =>
    obtain ⟨j, hj, rfl, hb⟩ := hrel
    have c1 := ref_turnedTo (some ad) n c (l.take n) j wr ((hr.below hb).more hb.size) (by omega) (by omega)
    have c2 := fun (A' : Option Addr) (n' c' : Nat) (w' : World) (ho : Own w' wr.heap.size 4 (.slice A' n' c') (vb (turnL (l.take n) j))) (hn' : Hid (n' = n)) => ref_EvenPut A' n' c' (turnL (l.take n) j) w' ho.reads (by rw [hn'.out]; exact hev)
    have hL : (turnL (l.take n) j).length = n := by rw [turnL_len, List.length_take, H.out]; omega
    have HL := Lib.hid hL
    have hPL := putL_len (turnL (l.take n) j)
    rw [hL] at hPL
    have HPL := Lib.hid hPL
    have hB := hb.size
    have hwr := h.below hb
    clear hL hPL
    by_cases hlt : j < K
    · have HE := Lib.hid (hno.out j (by omega) (by omega))
      generalize hT : turnL (l.take n) j = t at *
      have HT := Lib.hid hT
      clear hT
      go_wp2_with (first | (go_at_call 59; refine c1.mono ?_; rintro e w1 ⟨A1, n1, k1, rfl, ho1, hb1⟩; have hn1 : Hid (n1 = n) := (by unfold Hid; rw [← ho1.len, List.length_map, HL.out])) | (go_at_call 39; refine (c2 _ _ _ _ ho1 hn1).mono ?_; rintro e w2 ⟨A2, n2, k2, rfl, ho2, hb2⟩; have c4 := ref_Bools A2 (some ad) n2 N k2 c _ _ false w2 ho2.reads ((hwr.below (hb1.mono hB)).below (hb2.mono (Nat.le_trans hB hb1.size))) (by rw [← ho2.len, List.length_map, HPL.out]; unfold maxLen; omega) (by simp [Hid]; exact HE.out)) | (go_at_call 22; refine c4.mono ?_; rintro e w3 ⟨rfl, m3, rfl⟩))
      go_roundw
      case rel => exact ⟨j + 1, by omega, by go_num, below_drewN (hb.trans ((hb1.mono hB).trans (hb2.mono (Nat.le_trans hB hb1.size)))) _⟩
      case measure => simp only [intOf]; omega
    · obtain rfl : j = K := by omega
      have HE := heq
      generalize hT : turnL (l.take n) j = t at *
      have HT := Lib.hid hT
      clear hT
      go_wp2_with (first | (go_at_call 59; refine c1.mono ?_; rintro e w1 ⟨A1, n1, k1, rfl, ho1, hb1⟩; have hn1 : Hid (n1 = n) := (by unfold Hid; rw [← ho1.len, List.length_map, HL.out])) | (go_at_call 39; refine (c2 _ _ _ _ ho1 hn1).mono ?_; rintro e w2 ⟨A2, n2, k2, rfl, ho2, hb2⟩; have c4 := ref_Bools A2 (some ad) n2 N k2 c _ _ true w2 ho2.reads ((hwr.below (hb1.mono hB)).below (hb2.mono (Nat.le_trans hB hb1.size))) (by rw [← ho2.len, List.length_map, HPL.out]; unfold maxLen; omega) (by simp [Hid]; exact HE.out)) | (go_at_call 22; refine c4.mono ?_; rintro e w3 ⟨rfl, m3, rfl⟩))
      go_ret2
      exact ⟨A1, n1, k1, rfl, by rw [HT.out]; exact ((ho1.below hb2 (Nat.le_refl _)).drewN _).low hB, below_drewN (hb.trans ((hb1.mono hB).trans (hb2.mono (Nat.le_trans hB hb1.size)))) _⟩

set_option maxHeartbeats 600000 in
theorem ref_EvenGet_no (A : Option Addr) (N c : Nat) (l : List Bool) (n : Nat) (w : World) (h : Reads w w.heap.size A N (vb l)) (hc : N ≤ c) (hN : N = n + 8) (hn12 : n ≤ 12) (hn2 : n % 2 = 0) (hno : Hid (∀ j, j ≤ n → putL (turnL (l.take n) j) ≠ l)) :
    Calls Try.prog 44 #[.slice A N c] w (fun e w' => e = .returned (.tuple #[.slice none 0 0, .bool false]) ∧ Below w.heap.size w w') := by
  have H := Lib.hid h.bool_len
  have hNi : (N : Int) - 8 = (n : Int) := by omega
  have hN1 : N ≤ n + 8 := by omega
  have hN2 : n + 8 ≤ N := by omega
  clear hN
  have e1 : ((n : Int) % 2 == 1) = false := by simp; omega
  have d2 : decide ((n : Int) < 0) = false := decide_eq_false (by omega)
  obtain ⟨ad, e⟩ := h.addr (by omega)
  subst e
  have hr := h.takeB (k := n) (by omega)
  have hcn : n ≤ c := by omega
  have hev : Hid (evenErr n = 0) := by unfold Hid evenErr; rw [if_neg (by omega), if_neg (by omega)]
  go_enter Try.func44, Try.ntmps44
  go_wp2
  clear hNi
  go_loopw [5] (fun i wr => ∃ j : Nat, j ≤ n + 1 ∧ i = .int .i64 j ∧ Below w.heap.size w wr) (fun i _ => n + 1 - (intOf i).toNat)
  case atStart => exact ⟨0, by omega, rfl, Below.refl _ _⟩
  case round =>
    obtain ⟨j, hj, rfl, hb⟩ := hrel
    by_cases hlt : j ≤ n
    · have c1 := ref_turnedTo (some ad) n c (l.take n) j wr ((hr.below hb).more hb.size) (by omega) (by omega)
      have c2 := fun (A' : Option Addr) (n' c' : Nat) (w' : World) (ho : Own w' wr.heap.size 4 (.slice A' n' c') (vb (turnL (l.take n) j))) (hn' : Hid (n' = n)) => ref_EvenPut A' n' c' (turnL (l.take n) j) w' ho.reads (by rw [hn'.out]; exact hev)
      have hL : (turnL (l.take n) j).length = n := by rw [turnL_len, List.length_take, H.out]; omega
      have HL := Lib.hid hL
      have hPL := putL_len (turnL (l.take n) j)
      rw [hL] at hPL
      have HPL := Lib.hid hPL
      have hB := hb.size
      have hwr := h.below hb
      clear hL hPL
      have HE := Lib.hid (hno.out j hlt)
      generalize hT : turnL (l.take n) j = t at *
      have HT := Lib.hid hT
      clear hT
      go_wp2_with (first | (go_at_call 59; refine c1.mono ?_; rintro e w1 ⟨A1, n1, k1, rfl, ho1, hb1⟩; have hn1 : Hid (n1 = n) := (by unfold Hid; rw [← ho1.len, List.length_map, HL.out])) | (go_at_call 39; refine (c2 _ _ _ _ ho1 hn1).mono ?_; rintro e w2 ⟨A2, n2, k2, rfl, ho2, hb2⟩; have c4 := ref_Bools A2 (some ad) n2 N k2 c _ _ false w2 ho2.reads ((hwr.below (hb1.mono hB)).below (hb2.mono (Nat.le_trans hB hb1.size))) (by rw [← ho2.len, List.length_map, HPL.out]; unfold maxLen; omega) (by simp [Hid]; exact HE.out)) | (go_at_call 22; refine c4.mono ?_; rintro e w3 ⟨rfl, m3, rfl⟩))
      go_roundw
      case rel => exact ⟨j + 1, by omega, by go_num, below_drewN (hb.trans ((hb1.mono hB).trans (hb2.mono (Nat.le_trans hB hb1.size)))) _⟩
      case measure => simp only [intOf]; omega
    · have hgt : (n : Int) < (j : Int) := by omega
      go_wp2
      go_ret2
      exact ⟨rfl, hb⟩

set_option maxHeartbeats 400000 in
theorem ref_EvenGet_err (A : Option Addr) (N c : Nat) (w : World) (hm : N ≤ maxLen) (h2 : N < 8 ∨ N % 2 = 1) :
    Calls Try.prog 44 #[.slice A N c] w (Ret w (.tuple #[.slice none 0 0, .bool false])) := by
  unfold maxLen at hm
  by_cases h3 : N < 8
  · clear h2
    go_enter Try.func44, Try.ntmps44
    go_wp2
    go_ret2
    exact ⟨rfl, rfl⟩
  · obtain ⟨n, hN⟩ : ∃ n, N = n + 8 := ⟨N - 8, by omega⟩
    have hNi : (N : Int) - 8 = (n : Int) := by omega
    have e1 : ((n : Int) % 2 == 1) = true := by simp; omega
    have d2 : decide ((n : Int) < 0) = false := decide_eq_false (by omega)
    clear h2 hN
    go_enter Try.func44, Try.ntmps44
    go_wp2
    go_ret2
    exact ⟨rfl, rfl⟩

set_option maxHeartbeats 600000 in
theorem EvenGets_walk (A : Option Addr) (N c : Nat) (l : List Bool) (w : World) (h : Reads w w.heap.size A N (vb l)) (hs : N * 1 ≤ reachBytes) (hc : N ≤ c) :
    Calls Try.prog 14 #[.slice A N c] w (LawTrue w) := by
  have hm : N ≤ maxLen := by unfold reachBytes at hs; unfold maxLen; omega
  have hm2 : N ≤ 9223372036854775807 := by unfold maxLen at hm; omega
  clear hs
  have H := h.bool_len
  by_cases h20 : 20 < N
  · have c1 := even_Get_err A N c 1 w hm (by unfold Hid getErr; rw [if_pos h20]) (by omega)
    clear H
    go_enter Try.func14, Try.ntmps14
    go_wp2_with (go_at_call 43; refine c1.mono ?_; rintro e w1 ⟨rfl, rfl⟩)
    go_ret
    exact .same _
  · have d1 : decide ((20 : Int) < N) = false := decide_eq_false (by omega)
    by_cases h2 : N < 8 ∨ N % 2 = 1
    · have c1 := even_Get_err A N c 3 w hm (by unfold Hid getErr; rw [if_neg h20, if_pos h2]) (by omega)
      have c2 := ref_EvenGet_err A N c w hm h2
      clear H h2
      go_enter Try.func14, Try.ntmps14
      go_wp2_with (first | (go_at_call 43; refine c1.mono ?_; rintro e w1 ⟨rfl, rfl⟩) | (go_at_call 44; refine c2.mono ?_; rintro e w1 ⟨rfl, rfl⟩))
      go_ret
      exact .same _
    · obtain ⟨n, hN⟩ : ∃ n, N = n + 8 := ⟨N - 8, by omega⟩
      have hn2 : n % 2 = 0 := by omega
      have hn12 : n ≤ 12 := by omega
      obtain ⟨K, hK⟩ : ∃ K, decB (atB l n) 4 = K := ⟨_, rfl⟩
      have hdec := fun j hj => get_dec (l := l) (n := n) (k := j) (by omega) hn2 hn12 hj
      by_cases hok : K ≤ n ∧ putL (turnL (l.take n) K) = l
      · have c2 := fun (w1 : World) (hb1 : Below w.heap.size w w1) => ref_EvenGet A N c l n w1 ((h.below hb1).more hb1.size) hc hN hn12 hn2 K hok.1 hok.2 (fun j hj hne he => hne (by rw [← hdec j hj he, hK]))
        have c1 := even_Get A N c l n w h hc hN hn12 hn2 K hK true (decide_eq_true hok)
        have hL : (turnL (l.take n) K).length = n := by rw [turnL_len, List.length_take]; omega
        have HL := Lib.hid hL
        clear hok hdec hK H hL hN
        generalize hT : turnL (l.take n) K = t at *
        have HT := Lib.hid hT
        clear hT
        go_enter Try.func14, Try.ntmps14
        go_wp2_with (first | (go_at_call 43; refine c1.mono ?_; rintro e w1 ⟨hb1, A1, n1, k1, rfl, ho1⟩) | (go_at_call 44; refine (c2 _ hb1).mono ?_; rintro e w2 ⟨A2, n2, k2, rfl, ho2, hb2⟩; have c4 := ref_Bools A1 A2 n1 n2 k1 k2 _ _ true w2 (ho1.reads.below hb2) ho2.reads (by rw [← ho1.len, List.length_map, HL.out]; unfold maxLen; omega) (by simp [Hid])) | (go_at_call 22; refine c4.mono ?_; rintro e w3 ⟨rfl, m3, rfl⟩))
        go_ret
        exact ⟨rfl, below_drewN (hb1.trans (hb2.mono hb1.size)) _⟩
      · have c2 := fun (w1 : World) (hb1 : Below w.heap.size w w1) => ref_EvenGet_no A N c l n w1 ((h.below hb1).more hb1.size) hc hN hn12 hn2 (fun j hj he => hok (by have := hdec j hj he; rw [hK] at this; subst this; exact ⟨hj, he⟩))
        have c1 := even_Get A N c l n w h hc hN hn12 hn2 K hK false (decide_eq_false hok)
        clear hok hdec hK H hN
        go_enter Try.func14, Try.ntmps14
        go_wp2_with (first | (go_at_call 43; refine c1.mono ?_; rintro e w1 ⟨hb1, rfl⟩) | (go_at_call 44; refine (c2 _ hb1).mono ?_; rintro e w2 ⟨rfl, hb2⟩))
        go_ret
        exact ⟨rfl, hb1.trans (hb2.mono hb1.size)⟩
end Go.Proofs.Ytakpkllfoddalaa

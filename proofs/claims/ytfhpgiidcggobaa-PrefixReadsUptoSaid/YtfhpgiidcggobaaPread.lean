/-
  Reading by a code: plain words, and quipuref.Read.
-/
import Derived.Test.YtfhpgiidcggobaaPreft
import Derived.Test.YtfhpgiidcggobaaPrefw
import Derived.Test.YtfhpgiidcggobaaCut
import Derived.Test.YtfhpgiidcggobaaStore
set_option linter.unusedVariables false
namespace Go.Proofs.Ytfhpgiidcggobaa
open Go.RowKit

theorem el_intsR : Elem Try.prog 23 3 (.int .i64 0) 8 := Elem.mk' Try.underlying23 (by kernel_rfl) rfl
def slenR : Value → Nat
  | .slice _ n _ => n
  | _ => 0
def findW (ls : List (List Bool)) (n : Nat) (bq : List Bool) : Int := idxOf (fun s => begB (ls.getD s []) bq) n
def readR (ls : List (List Bool)) (n : Nat) : Nat → List Bool → List Nat → Option (List Nat)
  | _, [], acc => some acc
  | 0, _ :: _, _ => none
  | f + 1, b :: t, acc => if findW ls n (b :: t) < 0 then none else readR ls n f ((b :: t).drop (ls.getD (findW ls n (b :: t)).toNat []).length) (acc ++ [(findW ls n (b :: t)).toNat])
theorem readR_end (ls : List (List Bool)) (n f : Nat) (acc : List Nat) : readR ls n f [] acc = some acc := by cases f <;> rfl
theorem readR_none {ls : List (List Bool)} {n f : Nat} {bq : List Bool} {acc : List Nat} (h0 : bq ≠ []) (h : findW ls n bq = -1) : readR ls n f bq acc = none := by
  cases bq with
  | nil => exact absurd rfl h0
  | cons b t =>
    cases f with
    | zero => rfl
    | succ f => rw [readR, h, if_pos (by decide)]
theorem readR_next {ls : List (List Bool)} {n f s : Nat} {bq : List Bool} {acc : List Nat} (h0 : bq ≠ []) (h : findW ls n bq = s) : readR ls n (f + 1) bq acc = readR ls n f (bq.drop (ls.getD s []).length) (acc ++ [s]) := by
  cases bq with
  | nil => exact absurd rfl h0
  | cons b t => rw [readR, h, if_neg (by omega)]; rfl
theorem idx_cases (p : Nat → Bool) (n : Nat) : (∃ k, k < n ∧ p k = true ∧ (∀ j, j < k → p j = false) ∧ idxOf p n = k) ∨ ((∀ j, j < n → p j = false) ∧ idxOf p n = -1) := by
  by_cases h : ∃ k, k < n ∧ p k = true
  · have hk : ∃ k, (k < n ∧ p k = true) ∧ ∀ j, j < k → ¬ (j < n ∧ p j = true) := by
      obtain ⟨k, hk⟩ := h
      induction k using Nat.strongRecOn with
      | _ k ih =>
        by_cases h2 : ∃ j, j < k ∧ (j < n ∧ p j = true)
        · obtain ⟨j, hj, hj2⟩ := h2; exact ih j hj hj2
        · exact ⟨k, hk, fun j hj hj2 => h2 ⟨j, hj, hj2⟩⟩
    obtain ⟨k, ⟨h1, h2⟩, h3⟩ := hk
    have h4 : ∀ j, j < k → p j = false := fun j hj => by
      cases hp : p j
      · rfl
      · exact absurd ⟨by omega, hp⟩ (h3 j hj)
    exact .inl ⟨k, h1, h2, h4, idxOf_hit h1 h2 h4⟩
  · have h4 : ∀ j, j < n → p j = false := fun j hj => by
      cases hp : p j
      · rfl
      · exact absurd ⟨j, hj, hp⟩ h
    exact .inr ⟨h4, idxOf_none h4⟩
def lastW (p : Nat → Bool) : Nat → Int
  | 0 => -1
  | k + 1 => if p k = true then k else lastW p k
theorem lastW_none {p : Nat → Bool} : ∀ {n}, (∀ j, j < n → p j = false) → lastW p n = -1
  | 0, _ => rfl
  | n + 1, h => by rw [lastW, if_neg (by rw [h n (by omega)]; simp)]; exact lastW_none fun j hj => h j (by omega)
theorem lastW_hit {p : Nat → Bool} {k : Nat} : ∀ {n}, k < n → p k = true → (∀ j, j < n → p j = true → j = k) → lastW p n = k
  | 0, h, _, _ => absurd h (by omega)
  | n + 1, h, hk, hu => by
    rw [lastW]
    by_cases hn : p n = true
    · rw [if_pos hn, hu n (by omega) hn]
    · rw [if_neg hn]
      have hkn : k ≠ n := fun e => hn (e ▸ hk)
      exact lastW_hit (by omega) hk fun j hj hj2 => hu j (by omega) hj2
/-- at most one word begins a text -/
def oneW (ls : List (List Bool)) (n : Nat) : Prop := ∀ (bq : List Bool) (i j : Nat), i < n → j < n → begB (ls.getD i []) bq = true → begB (ls.getD j []) bq = true → i = j
theorem begB_true {a b : List Bool} (h : begB a b = true) : a.length ≤ b.length ∧ a = b.take a.length := by simpa [begB] using h
theorem begB_two {a b bq : List Bool} (ha : begB a bq = true) (hb : begB b bq = true) : begB a b = true ∨ begB b a = true := by
  obtain ⟨a1, a2⟩ := begB_true ha
  obtain ⟨b1, b2⟩ := begB_true hb
  rcases Nat.le_total a.length b.length with h | h
  · left
    rw [begB_eq h, decide_eq_true_eq]
    have : b.take a.length = bq.take a.length := by
      conv => lhs; rw [b2]
      rw [List.take_take, Nat.min_eq_left h]
    rw [this]; exact a2
  · right
    rw [begB_eq h, decide_eq_true_eq]
    have : a.take b.length = bq.take b.length := by
      conv => lhs; rw [a2]
      rw [List.take_take, Nat.min_eq_left h]
    rw [this]; exact b2
theorem oneW_free {ls : List (List Bool)} {n : Nat} (h : freeB ls n = true) : oneW ls n := by
  intro bq i j hi hj h1 h2
  rcases Nat.decEq i j with hne | he
  · exfalso
    have key : ∀ a b, a < n → b < n → a ≠ b → begB (ls.getD a []) (ls.getD b []) = true → False := fun a b ha hb hab hh => by
      have : freeB ls n = false := freeB_false ha hb (by unfold hitP; rw [hh]; simp [hab])
      rw [this] at h; cases h
    rcases begB_two h1 h2 with h3 | h3
    · exact key i j hi hj hne h3
    · exact key j i hj hi (fun e => hne e.symm) h3
  · exact he
theorem last_find {ls : List (List Bool)} {n : Nat} (hu : oneW ls n) (bq : List Bool) : lastW (fun s => begB (ls.getD s []) bq) n = findW ls n bq := by
  unfold findW
  rcases idx_cases (fun s => begB (ls.getD s []) bq) n with ⟨k, h1, h2, _, h4⟩ | ⟨h1, h2⟩
  · rw [h4]; exact lastW_hit h1 h2 fun j hj hj2 => hu bq j k hj h1 hj2 h2
  · rw [h2]; exact lastW_none h1
/-- none, or a list of the call's own -/
def RetRd (w : World) (bad : Ending) (good : Option Addr → Nat → Nat → Ending) : Option (List Nat) → Ending → World → Prop
  | none => fun e w' => e = bad ∧ Below w.heap.size w w'
  | some L => fun e w' => ∃ A n c, e = good A n c ∧ Own w' w.heap.size 3 (.slice A n c) (vn .i64 L) ∧ Below w.heap.size w w'
theorem retRd_none {w w' : World} {bad e : Ending} {good : Option Addr → Nat → Nat → Ending} {R : Option (List Nat)} (hR : R = none) (he : e = bad) (hb : Below w.heap.size w w') : RetRd w bad good R e w' := by subst hR; exact ⟨he, hb⟩
theorem retRd_some {w w' : World} {bad e : Ending} {good : Option Addr → Nat → Nat → Ending} {R : Option (List Nat)} {L : List Nat} {A : Option Addr} {n c : Nat} (hR : R = some L) (he : e = good A n c) (ho : Own w' w.heap.size 3 (.slice A n c) (vn .i64 L)) (hb : Below w.heap.size w w') : RetRd w bad good R e w' := by subst hR; exact ⟨A, n, c, he, ho, hb⟩
theorem Reads.dropR {w : World} {B n k : Nat} {ad : Addr} {l : List Bool} (h : Reads w B (some ad) n (vb l)) (hk : k ≤ n) : Reads w B (some (ad.add k)) (n - k) (vb (l.drop k)) := by
  have := h.cutFrom hk
  rwa [← List.map_drop] at this
set_option maxRecDepth 100000 in
set_option maxHeartbeats 2000000 in
theorem ref_Read (A A' : Option Addr) (n c m c' : Nat) (ls : List (List Bool)) (bits : List Bool) (R : Option (List Nat)) (w : World) (h : Reads2c w w.heap.size A n ls) (h' : Reads w w.heap.size A' m (vb bits)) (hc : m ≤ c') (hn : n ≤ 8) (hm : m ≤ 1048576) (hne : ∀ s, s < n → 1 ≤ (ls.getD s []).length) (hu : oneW ls n) (hR : Hid (readR ls n m bits [] = R)) :
    Calls Try.prog 35 #[.slice A n c, .slice A' m c'] w (RetRd w (.returned (.tuple #[.slice none 0 0, .bool false])) (fun A n c => .returned (.tuple #[.slice A n c, .bool true])) R) := by
  have HNE := Lib.hid hne
  have HU := Lib.hid hu
  have HH' := Lib.hid h'
  clear hne hu h'
  go_enter Try.func35, Try.ntmps35
  go_wp2
  go_loopw [1, 6] (fun v1 v6 wr => ∃ (f m1 c1 : Nat) (A1 : Option Addr) (bq : List Bool) (acc : List Nat), v1 = .slice A1 m1 c1 ∧ Reads wr w.heap.size A1 m1 (vb bq) ∧ m1 ≤ c1 ∧ m1 ≤ f ∧ acc.length + f = m ∧ Own wr w.heap.size 3 v6 (vn .i64 acc) ∧ Below w.heap.size w wr ∧ Hid (readR ls n f bq acc = R)) (fun v1 _ _ => slenR v1)
  case atStart => exact ⟨m, m, c', A', bits, [], rfl, HH'.out, hc, Nat.le_refl _, by simp, Own.nil _ _ _, Below.refl _ _, hR⟩
  case round =>
    obtain ⟨f, m1, c1, A1, bq, acc, rfl, hbq, hc1, hf, hacc, hown, hbel, hr⟩ := hrel
    obtain ⟨wo, rfl⟩ : ∃ x, x = wr := ⟨_, rfl⟩
    clear hR
    have hbl := hbq.bool_len
    have HOWN := Lib.hid hown
    have HACC := Lib.hid hacc
    have hm1 : m1 ≤ 1048576 := by omega
    clear hown hacc
    by_cases hpos : 0 < m1
    · have j0 : (0 : Int) < (m1 : Int) := by omega
      have hb0 : bq ≠ [] := by intro e; subst e; simp at hbl; omega
      have hro := h.below hbel
      have HRO := Lib.hid hro
      have HBQ := Lib.hid hbq
      have HBL := Lib.hid hbl
      have HB0 := Lib.hid hb0
      have m63 : m1 ≤ maxLen := by unfold maxLen; omega
      have cB := fun (Ar : Option Addr) (nr cr : Nat) (l : List Bool) (hrow : Reads wo w.heap.size Ar nr (vb l)) (hnr : nr ≤ maxLen) (q : Nat) => ref_Begins Ar A1 nr m1 cr c1 l bq (wo.drewN q) (hrow.drewN q) (HBQ.out.drewN q) hnr m63 hc1
      clear hbq hbl hb0 hro
      go_wp2
      go_loopw [7, 8] (fun v7 v8 wr => ∃ s q : Nat, s ≤ n ∧ v8 = .int .i64 s ∧ v7 = .int .i64 (lastW (fun s => begB (ls.getD s []) bq) s) ∧ wr = wo.drewN q) (fun _ v8 _ => n - (intOf v8).toNat)
      case atStart => exact ⟨0, 0, by omega, rfl, rfl, rfl⟩
      case round =>
        obtain ⟨s, q, hs, rfl, rfl, rfl⟩ := hrel
        by_cases hsl : s < n
        · have i1 : (s : Int) < (n : Int) := by omega
          obtain ⟨ad, l, Ar, nr, cr, e, hl, hcr, hrow, hnr, hll, hrc⟩ := HRO.out.row hsl
          subst e
          have c1' := cB Ar nr cr l hrow hnr q
          have hlD : ls.getD s [] = l := by rw [List.getD_eq_getElem?_getD, hl]; rfl
          have HN : Hid (lastW (fun s => begB (ls.getD s []) bq) (s + 1) = if begB l bq = true then (s : Int) else lastW (fun s => begB (ls.getD s []) bq) s) := by unfold Hid; rw [lastW]; simp only [hlD]
          generalize lastW (fun s => begB (ls.getD s []) bq) s = y at *
          clear hl hrow hll hlD cB
          generalize begB l bq = b at *
          cases b
          · go_wp2_with (go_at_call 50; refine c1'.mono ?_; clear c1'; rintro e w3 ⟨rfl, m3, rfl⟩)
            go_roundw
            case rel => exact ⟨s + 1, q + m3, by omega, by go_num, by rw [HN.out]; simp, by first | rfl | rw [World.drewN_drewN] | simp⟩
            case measure => simp [intOf] <;> omega
          · go_wp2_with (go_at_call 50; refine c1'.mono ?_; clear c1'; rintro e w3 ⟨rfl, m3, rfl⟩)
            go_roundw
            case rel => exact ⟨s + 1, q + m3, by omega, by go_num, by rw [HN.out]; simp, by first | rfl | rw [World.drewN_drewN] | simp⟩
            case measure => simp [intOf] <;> omega
        · obtain rfl : n = s := by omega
          have i1 : ¬ (n : Int) < (n : Int) := by omega
          rw [last_find HU.out]
          clear cB
          rcases hfc : idx_cases (fun s => begB (ls.getD s []) bq) n with ⟨k, h1, h2, _, h4⟩ | ⟨h1, h2⟩
          · have hfw : findW ls n bq = (k : Int) := h4
            rw [hfw]
            obtain ⟨f', rfl⟩ : ∃ f', f = f' + 1 := ⟨f - 1, by omega⟩
            have hr2 : Hid (readR ls n f' (bq.drop (ls.getD k []).length) (acc ++ [k]) = R) := by unfold Hid; rw [← readR_next HB0.out hfw]; exact hr.out
            obtain ⟨hle, _⟩ := begB_true h2
            have hn1 := HNE.out k h1
            have HLK : Hid (∀ l, ls[k]? = some l → l.length = (ls.getD k []).length) := fun l hl => by rw [List.getD_eq_getElem?_getD, hl]; rfl
            rw [HBL.out] at hle
            generalize (ls.getD k []).length = r at *
            obtain ⟨ad1, rfl⟩ := HBQ.out.addr hpos
            have hdr := HBQ.out.dropR hle
            have hvs : vn .i64 acc ++ [Value.int .i64 (k : Int)] = vn .i64 (acc ++ [k]) := by simp [vn]
            have HVS := Lib.hid hvs
            have HDR := Lib.hid hdr
            have HD0 : Hid (Reads wo w.heap.size (some ad1) 0 (vb (bq.drop m1))) := by
              unfold Hid
              have h1 := HBQ.out.take (k := 0) (by omega)
              rw [List.drop_of_length_le (by rw [HBL.out]; exact Nat.le_refl _)]
              simpa [vb] using h1
            have k1 : (k : Int) < (n : Int) := by omega
            have k0 : ¬ (k : Int) < 0 := by omega
            have k00 : (0 : Int) ≤ (k : Int) := by omega
            have l0 : (0 : Int) ≤ (r : Int) := by omega
            have l1 : (r : Int) ≤ (m1 : Int) := by omega
            have hav : (vn .i64 acc).length ≤ 1048575 := by
              have := HACC.out
              simp [vn]
              omega
            have hso : w.heap.size ≤ wo.heap.size := hbel.size
            have HA2 : Hid ((acc ++ [k]).length + f' = m) := by
              have := HACC.out
              unfold Hid
              simp
              omega
            have HK1 := Lib.hid h1
            have HBE := Lib.hid hbel
            clear hfc h1 h2 h4 hfw hdr hvs hr hbel
            by_cases huc : r < c1
            · go_wp2_with (at_builtin; refine app1 el_intsR rfl _ _ rfl rfl (HOWN.out.drewN q) _ _ rfl (by rfl) (by unfold maxLen; omega) (by omega) (by exact hso) ?_; intro v2 w5 ho5 hb5 _ _; rw [HVS.out] at ho5; have hb5' : Below w.heap.size wo w5 := (below_drewN (Below.refl _ wo) q).trans hb5; obtain ⟨ad, l, Ar, nr, cr, e, hl, hcr, hrow, hnr, hll, hrc⟩ := (h.below (HBE.out.trans hb5')).row HK1.out; subst e; obtain rfl : r = nr := (by rw [← HLK.out l hl, hll]); clear hl hrow hll)
              go_roundw
              case rel => exact ⟨f', m1 - r, c1 - r, some (ad1.add r), bq.drop r, acc ++ [k], rfl, HDR.out.below hb5', by omega, by omega, HA2.out, ho5, HBE.out.trans hb5', hr2⟩
              case measure => simp [slenR] <;> omega
            · obtain rfl : r = c1 := by omega
              obtain rfl : r = m1 := by omega
              go_wp2_with (at_builtin; refine app1 el_intsR rfl _ _ rfl rfl (HOWN.out.drewN q) _ _ rfl (by rfl) (by unfold maxLen; omega) (by omega) (by exact hso) ?_; intro v2 w5 ho5 hb5 _ _; rw [HVS.out] at ho5; have hb5' : Below w.heap.size wo w5 := (below_drewN (Below.refl _ wo) q).trans hb5; obtain ⟨ad, l, Ar, nr, cr, e, hl, hcr, hrow, hnr, hll, hrc⟩ := (h.below (HBE.out.trans hb5')).row HK1.out; subst e; obtain rfl : r = nr := (by rw [← HLK.out l hl, hll]); clear hl hrow hll)
              go_roundw
              case rel => exact ⟨f', 0, 0, some ad1, bq.drop r, acc ++ [k], by simp, HD0.out.below hb5', by omega, by omega, HA2.out, ho5, HBE.out.trans hb5', hr2⟩
              case measure => simp [slenR] <;> omega
          · have hfw : findW ls n bq = -1 := h2
            rw [hfw]
            have hr2 : Hid (R = none) := by unfold Hid; rw [← hr.out, readR_none HB0.out hfw]
            clear hfc h1 h2 hfw hr
            go_wp2
            go_ret2
            exact retRd_none hr2.out rfl (below_drewN hbel q)
    · obtain rfl : m1 = 0 := by omega
      have hbe : bq = [] := List.eq_nil_of_length_eq_zero hbl
      have hr2 : Hid (R = some acc) := by unfold Hid; rw [← hr.out, hbe, readR_end]
      clear hr hbe
      obtain ⟨A9, c9, e9⟩ := HOWN.out.form
      subst e9
      go_wp2
      go_ret2
      exact retRd_some hr2.out rfl HOWN.out hbel
end Go.Proofs.Ytfhpgiidcggobaa

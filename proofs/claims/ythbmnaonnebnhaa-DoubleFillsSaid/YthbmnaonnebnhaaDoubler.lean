/-
  quipuref.DoubleFill.
-/
import Derived.Test.YthbmnaonnebnhaaDoublez
set_option linter.unusedVariables false
namespace Go.Proofs.Ythbmnaonnebnhaa
open Go.RowKit

theorem one_vi (l : List Int) : ∀ u ∈ vi .i64 l, u.oneCell' = true := by
  intro u hu; obtain ⟨b, _, rfl⟩ := List.mem_map.1 hu; rfl
theorem own_shape {w : World} {B n : Nat} {v : Value} {L : List Int} (ho : Own w B 3 v (vi .i64 L)) (hl : L.length = n) (hn : 1 ≤ n) :
    ∃ g c, v = .slice (some ⟨g, 0, none⟩) n c ∧ B ≤ g ∧ g < w.heap.size ∧ ∀ i, i < n → ∀ a : Nat, (∃ y, w.cell? ⟨g, i, none⟩ = some y) ∧ w.frozen? ⟨g, i, none⟩ = false ∧ Own (w.setCell ⟨g, i, none⟩ (.int .i64 (a : Int))) B 3 (.slice (some ⟨g, 0, none⟩) n c) (vi .i64 (L.set i (a : Int))) := by
  obtain ⟨A, c, e⟩ := ho.form
  rw [List.length_map, hl] at e
  subst e
  obtain ⟨ad, rfl⟩ := ho.reads.addr (by omega)
  obtain ⟨g, rfl, hg, hg2⟩ := ho.addr
  refine ⟨g, c, rfl, hg, hg2, fun i hi a => ?_⟩
  have h1 := ho.cell (j := i) (u := .int .i64 L[i]) (by rw [List.getElem?_map, List.getElem?_eq_getElem (by omega)]; rfl)
  have h2 := ho.frozenAt i
  have h3 := ho.set i (.int .i64 (a : Int))
  rw [add_row] at h1 h2 h3
  rw [vi_set] at h3
  exact ⟨⟨_, h1⟩, h2, h3⟩
theorem own_store2 {w : World} {B n g c i : Nat} {L : List Int} (ho : Own w B 3 (.slice (some ⟨g, 0, none⟩) n c) (vi .i64 L)) (hi : i < n) (hl : L.length = n) (a : Nat) : (∃ y, w.cell? ⟨g, i, none⟩ = some y) ∧ w.frozen? ⟨g, i, none⟩ = false ∧ Own (w.setCell ⟨g, i, none⟩ (.int .i64 (a : Int))) B 3 (.slice (some ⟨g, 0, none⟩) n c) (vi .i64 (L.set i (a : Int))) := by
  have h1 := ho.cell (j := i) (u := .int .i64 L[i]) (by rw [List.getElem?_map, List.getElem?_eq_getElem (by omega)]; rfl)
  have h2 := ho.frozenAt i
  have h3 := ho.set i (.int .i64 (a : Int))
  rw [add_row] at h1 h2 h3
  rw [vi_set] at h3
  exact ⟨⟨_, h1⟩, h2, h3⟩
/-- the list that fits, or none -/
def RefP (w : World) (res : List Nat) (ok : Bool) (e : Ending) (w' : World) : Prop := match ok with
  | true => ∃ A n c, e = .returned (.tuple #[.slice A n c, .bool true]) ∧ Reads w' w'.heap.size A n (vn .i64 res) ∧ Below w.heap.size w w'
  | false => e = .returned (.tuple #[.slice none 0 0, .bool false]) ∧ Below w.heap.size w w'
set_option maxRecDepth 100000 in
set_option maxHeartbeats 3200000 in
theorem ref_DoubleFill0 (A A' : Option Addr) (n n2 c c' P Q : Nat) (hasP hasQ ok : Bool) (l : List Int) (lost : List Bool) (D res : List Nat) (w : World) (h : Reads w w.heap.size A n (vi .i64 l)) (h' : Reads w w.heap.size A' n (vb lost)) (hcap : n ≤ c) (h3 : 3 ≤ n) (h14 : n ≤ 14) (hn2 : n2 + 2 ≤ n) (hn2' : n ≤ n2 + 2)
    (hGL : Hid (goneL lost n2 = [])) (hAG : Hid (vi .i64 (l.take n2) = vn .i64 (setG D [] 0 0) ∧ True)) (HD16 : Hid (∀ x ∈ D, x < 16)) (hp0 : Hid (lost[n2]? = some (!hasP))) (hq0 : Hid (lost[n2 + 1]? = some (!hasQ))) (HZP' : Hid (hasP = true → l[n2]? = some (P : Int))) (HZQ' : Hid (hasQ = true → l[n2 + 1]? = some (Q : Int)))
    (HU : Hid (∀ a b, a < 16 → b < 16 → okG (setG D [] a b) n2 P Q hasP hasQ = true → setG D [] a b = res ∧ ok = true)) (HE : Hid (ok = true → ∃ a b, a < 16 ∧ b < 16 ∧ okG (setG D [] a b) n2 P Q hasP hasQ = true)) :
    Calls Try.prog 32 #[.slice A n c, .slice A' n c'] w (RefP w res ok) := by
  have HL := Lib.hid h.int_len
  have HL' := Lib.hid h'.bool_len
  have i0 : (n : Int) - 2 = (n2 : Int) := by omega
  have j5 : (0 : Int) ≤ (n2 : Int) := by omega
  have j7 : (n2 : Int) < (n : Int) := by omega
  have j8 : (n2 : Int) + 1 < (n : Int) := by omega
  have j10 : (0 : Int) ≤ (n2 : Int) + 1 := by omega
  have j11 : ((n2 : Int) + 1).toNat = n2 + 1 := by omega
  have j3 : (n2 : Int) ≤ (c : Int) := by omega
  have j4 : n2 ≤ c := by omega
  have j12 : ¬ c = n2 := by omega
  have h1n : 1 ≤ n2 := by omega
  obtain ⟨ad, x0, rfl, hadb, hx0, hcx0⟩ := h.int_at (k := n2) (by omega)
  obtain ⟨ad1, x1, e1, _, hx1, hcx1⟩ := h.int_at (k := n2 + 1) (by omega)
  injection e1 with e1; subst e1
  obtain ⟨ad', y0, rfl, hadb', hy0, hcy0⟩ := h'.bool_at (k := n2) (by omega)
  obtain ⟨ad1', y1, e1, _, hy1, hcy1⟩ := h'.bool_at (k := n2 + 1) (by omega)
  injection e1 with e1; subst e1
  obtain rfl : y0 = !hasP := by have := hp0.out; rw [hy0] at this; injection this
  obtain rfl : y1 = !hasQ := by have := hq0.out; rw [hy1] at this; injection this
  have HZP : Hid (hasP = true → x0 = (P : Int)) := fun hh => by have := HZP'.out hh; rw [hx0] at this; injection this
  have HZQ : Hid (hasQ = true → x1 = (Q : Int)) := fun hh => by have := HZQ'.out hh; rw [hx1] at this; injection this
  have hLL : Hid ((l.take n2).length = n2) := by unfold Hid; rw [List.length_take, HL.out]; omega
  clear hx0 hx1 hy0 hy1
  go_enter Try.func32, Try.ntmps32
  go_wp2
  go_loopw [7, 8] (fun gv iv wr => ∃ k : Nat, k ≤ n2 ∧ iv = .int .i64 k ∧ Own wr w.heap.size 3 gv (vn .i64 (goneL lost k)) ∧ Below w.heap.size w wr) (fun _ iv _ => n2 - (intOf iv).toNat)
  case atStart => exact ⟨0, by omega, rfl, Own.nil _ _ _, Below.refl _ _⟩
  case round =>
    obtain ⟨k, hk, rfl, hgone, hbel⟩ := hrel
    by_cases hlt : k < n2
    · obtain ⟨ad2, y, e2, hb2', hy, hc0'⟩ := h'.bool_at (k := k) (by omega)
      injection e2 with e2; subst e2
      have hc' : wr.cell? (ad'.add k) = some (.bool y) := (hbel.cell (by rw [block_of_add]; exact hb2')).trans hc0'
      have hls : lsB lost k = y := by unfold lsB; rw [List.getD_eq_getElem?_getD, hy]; rfl
      have hGN := goneL_next lost k
      rw [hls] at hGN
      have hgl : (vn .i64 (goneL lost k)).length ≤ 14 := by rw [List.length_map]; unfold goneL; have := filt_len (lsB lost) k; omega
      have hB := hbel.size
      have j20 : (k : Int) < (n : Int) := by omega
      cases y with
      | true =>
        have HGN : Hid (vn .i64 (goneL lost k) ++ [Value.int .i64 (k : Int)] = vn .i64 (goneL lost (k + 1))) := by unfold Hid; rw [hGN]; simp [vn]
        clear hGN hy hls
        go_wp2_with (at_builtin; refine app1 el_intD rfl _ _ rfl rfl hgone (.int .i64 (k : Int)) _ rfl rfl (by unfold maxLen; omega) (by omega) hB ?_; intro v2 w2 ho2 hb2 _ _)
        go_roundw
        case rel => exact ⟨k + 1, by omega, by go_num, by rw [← HGN.out]; exact ho2, hbel.trans hb2⟩
        case measure => simp [intOf]; omega
      | false =>
        have HGN : Hid (goneL lost (k + 1) = goneL lost k) := by unfold Hid; rw [hGN]; simp
        clear hGN hy hls
        go_wp2
        go_roundw
        case rel => exact ⟨k + 1, by omega, by go_num, by rw [HGN.out]; exact hgone, hbel⟩
        case measure => simp [intOf]; omega
    · obtain rfl : n2 = k := by omega
      rw [hGL.out] at hgone
      obtain ⟨A8, c8, e8⟩ := hgone.form
      generalize hm8 : (vn .i64 []).length = m8 at e8
      subst e8
      have hm8a : m8 ≤ 0 := by rw [← hm8]; simp
      have hm8b : 0 ≤ m8 := by rw [← hm8]; simp
      clear hm8
      have m1 : ¬ (0 : Int) < (m8 : Int) := by omega
      have m2 : ¬ (1 : Int) < (m8 : Int) := by omega
      go_wp2
      go_loopw [9] (fun av wr => ∃ a : Nat, a ≤ 16 ∧ av = .int .i64 a ∧ Own wr w.heap.size 3 (.slice A8 m8 c8) (vn .i64 []) ∧ Below w.heap.size w wr ∧ Hid (∀ a' b', a' < a → b' < 16 → okG (setG D [] a' b') n2 P Q hasP hasQ = false)) (fun av _ => 16 - (intOf av).toNat)
      case atStart => exact ⟨0, by omega, rfl, hgone, hbel, fun a' b' h1 => absurd h1 (by omega)⟩
      case round =>
        clear hgone hbel
        obtain ⟨a, ha16, rfl, hgone, hbel, hnoa⟩ := hrel
        by_cases ha : a < 16
        · have a1 : (a : Int) < 16 := by omega
          go_wp2
          go_loopw [10] (fun bv wr => ∃ b : Nat, b ≤ 16 ∧ bv = .int .i64 b ∧ Own wr w.heap.size 3 (.slice A8 m8 c8) (vn .i64 []) ∧ Below w.heap.size w wr ∧ Hid (∀ b', b' < b → okG (setG D [] a b') n2 P Q hasP hasQ = false)) (fun bv _ => 16 - (intOf bv).toNat)
          case atStart => exact ⟨0, by omega, rfl, hgone, hbel, fun b' h1 => absurd h1 (by omega)⟩
          case round =>
            clear hgone hbel
            obtain ⟨b, hb16, rfl, hgone, hbel, hnob⟩ := hrel
            by_cases hb : b < 16
            · have b1 : (b : Int) < 16 := by omega
              have hoA : Own (wr.alloc (.cells #[] 3)) wr.heap.size 3 (.slice (some ⟨wr.heap.size, 0, none⟩) 0 0) [] := Own.built wr #[] 0 rfl (by unfold maxLen; omega) (Nat.le_refl _)
              have hrA : Reads (wr.alloc (.cells #[] 3)) w.heap.size (some ad) n2 (vi .i64 (l.take n2)) := by
                have := ((h.take (k := n2) (by omega)).below hbel).alloc hbel.size (.cells #[] 3)
                unfold vi; rw [List.map_take]; exact this
              have hbI := hbel.alloc hbel.size (.cells #[] 3)
              obtain ⟨X, hX0⟩ : ∃ X, X = D := ⟨_, rfl⟩
              have HX : Hid (X = setG D [] a b) := hX0
              clear hX0
              have k1 : ¬ (0 : Int) < 0 := by omega
              go_wp2_with (at_builtin; refine appN el_intD rfl _ _ rfl rfl hoA rfl hrA (one_vi _) (by simp; unfold maxLen; omega) (by simp; omega) (by simp) ?_; clear hoA hrA; intro v2 w2 ho2 hb2 _ _; rw [List.nil_append] at ho2; obtain ⟨g2, c2, rfl, hg2, hl2, hu2⟩ := own_shape ho2 hLL.out h1n)
              obtain ⟨W, hW⟩ : ∃ W, W = w2 := ⟨_, rfl⟩
              have hbX : Below w.heap.size w W := by rw [hW]; exact hbI.trans (hb2.mono hbel.size)
              have hgX : Own W w.heap.size 3 (.slice A8 m8 c8) (vn .i64 []) := by rw [hW]; exact hgone.below (((Below.refl _ _).alloc (Nat.le_refl _) _).trans hb2) (Nat.le_refl _)
              have hrX : Reads W W.heap.size (some ⟨g2, 0, none⟩) n2 (vn .i64 X) := by rw [hW, HX.out]; have := ho2.reads; rw [hAG.out.1] at this; exact this
              rw [← hW]
              clear hW
              have b2 : W.cell? (ad'.add n2) = some (.bool (!hasP)) := (hbX.cell (by rw [block_of_add]; exact hadb')).trans hcy0
              have b3 : W.cell? (ad'.add (n2 + 1)) = some (.bool (!hasQ)) := (hbX.cell (by rw [block_of_add]; exact hadb')).trans hcy1
              have b4 : W.cell? (ad.add n2) = some (.int .i64 x0) := (hbX.cell (by rw [block_of_add]; exact hadb)).trans hcx0
              have b5 : W.cell? (ad.add (n2 + 1)) = some (.int .i64 x1) := (hbX.cell (by rw [block_of_add]; exact hadb)).trans hcx1
              have b3u := b3
              have b5u := b5
              simp [Addr.add] at b3u b5u
              have hX16 : ∀ x ∈ X, x < 16 := by rw [HX.out]; exact setG_16 HD16.out ha hb
              have cS2 := ref_Doubles (some ⟨g2, 0, none⟩) n2 c2 X W hrX (by omega) hX16
              have HOKV : Hid (okG X n2 P Q hasP hasQ = ((!hasP || decide (dbA X n2 = P)) && (!hasQ || decide (dbB X n2 = Q)))) := rfl
              clear hX16
              generalize dbA X n2 = pR at *
              generalize dbB X n2 = qR at *
              cases hasP with
              | false =>
                cases hasQ with
                | false =>
                  have HV0 := HOKV.out
                  simp at HV0
                  have HV := Lib.hid HV0
                  clear HV0
                  clear HOKV HZP HZQ
                  (try simp only [Bool.not_true] at b2 b3 b3u); (try simp only [Bool.not_false] at b2 b3 b3u)
                  refine cS2.mono ?_; clear cS2; rintro e w12 ⟨rfl, rfl⟩
                  go_wp2
                  go_ret2
                  obtain ⟨hX, rfl⟩ := (HU.out a b ha hb (by rw [← HX.out]; exact HV.out))
                  exact ⟨_, _, _, rfl, by rw [← hX, ← HX.out]; exact hrX, hbX⟩
                | true =>
                  by_cases hqq : qR = Q
                  ·
                    obtain rfl : x1 = (Q : Int) := HZQ.out rfl
                    obtain rfl : qR = Q := hqq
                    have t2 : ((qR : Int) == (qR : Int)) = true := by simp
                    have HV0 := HOKV.out
                    simp at HV0
                    have HV := Lib.hid HV0
                    clear HV0
                    clear HOKV HZP HZQ
                    (try simp only [Bool.not_true] at b2 b3 b3u); (try simp only [Bool.not_false] at b2 b3 b3u)
                    refine cS2.mono ?_; clear cS2; rintro e w12 ⟨rfl, rfl⟩
                    go_wp2
                    go_ret2
                    obtain ⟨hX, rfl⟩ := (HU.out a b ha hb (by rw [← HX.out]; exact HV.out))
                    exact ⟨_, _, _, rfl, by rw [← hX, ← HX.out]; exact hrX, hbX⟩
                  ·
                    obtain rfl : x1 = (Q : Int) := HZQ.out rfl
                    have t2 : ((qR : Int) == (Q : Int)) = false := by simp; omega
                    have HV0 := HOKV.out
                    simp [hqq] at HV0
                    have HV := Lib.hid HV0
                    clear HV0
                    clear HOKV HZP HZQ hqq
                    (try simp only [Bool.not_true] at b2 b3 b3u); (try simp only [Bool.not_false] at b2 b3 b3u)
                    refine cS2.mono ?_; clear cS2; rintro e w12 ⟨rfl, rfl⟩
                    go_wp2
                    go_roundw
                    case rel => exact ⟨b + 1, by omega, by go_num, hgX, hbX, fun b' h1 => by
                      rcases Nat.lt_or_ge b' b with h2 | h2
                      · exact hnob.out b' h2
                      · obtain rfl : b' = b := by omega
                        rw [← HX.out]; exact HV.out⟩
                    case measure => simp [intOf]; omega
              | true =>
                by_cases hpp : pR = P
                ·
                  cases hasQ with
                  | false =>
                    obtain rfl : x0 = (P : Int) := HZP.out rfl
                    obtain rfl : pR = P := hpp
                    have t1 : ((pR : Int) == (pR : Int)) = true := by simp
                    have HV0 := HOKV.out
                    simp at HV0
                    have HV := Lib.hid HV0
                    clear HV0
                    clear HOKV HZP HZQ
                    (try simp only [Bool.not_true] at b2 b3 b3u); (try simp only [Bool.not_false] at b2 b3 b3u)
                    refine cS2.mono ?_; clear cS2; rintro e w12 ⟨rfl, rfl⟩
                    go_wp2
                    go_ret2
                    obtain ⟨hX, rfl⟩ := (HU.out a b ha hb (by rw [← HX.out]; exact HV.out))
                    exact ⟨_, _, _, rfl, by rw [← hX, ← HX.out]; exact hrX, hbX⟩
                  | true =>
                    by_cases hqq : qR = Q
                    ·
                      obtain rfl : x0 = (P : Int) := HZP.out rfl
                      obtain rfl : x1 = (Q : Int) := HZQ.out rfl
                      obtain rfl : pR = P := hpp
                      obtain rfl : qR = Q := hqq
                      have t1 : ((pR : Int) == (pR : Int)) = true := by simp
                      have t2 : ((qR : Int) == (qR : Int)) = true := by simp
                      have HV0 := HOKV.out
                      simp at HV0
                      have HV := Lib.hid HV0
                      clear HV0
                      clear HOKV HZP HZQ
                      (try simp only [Bool.not_true] at b2 b3 b3u); (try simp only [Bool.not_false] at b2 b3 b3u)
                      refine cS2.mono ?_; clear cS2; rintro e w12 ⟨rfl, rfl⟩
                      go_wp2
                      go_ret2
                      obtain ⟨hX, rfl⟩ := (HU.out a b ha hb (by rw [← HX.out]; exact HV.out))
                      exact ⟨_, _, _, rfl, by rw [← hX, ← HX.out]; exact hrX, hbX⟩
                    ·
                      obtain rfl : x0 = (P : Int) := HZP.out rfl
                      obtain rfl : x1 = (Q : Int) := HZQ.out rfl
                      obtain rfl : pR = P := hpp
                      have t1 : ((pR : Int) == (pR : Int)) = true := by simp
                      have t2 : ((qR : Int) == (Q : Int)) = false := by simp; omega
                      have HV0 := HOKV.out
                      simp [hqq] at HV0
                      have HV := Lib.hid HV0
                      clear HV0
                      clear HOKV HZP HZQ hqq
                      (try simp only [Bool.not_true] at b2 b3 b3u); (try simp only [Bool.not_false] at b2 b3 b3u)
                      refine cS2.mono ?_; clear cS2; rintro e w12 ⟨rfl, rfl⟩
                      go_wp2
                      go_roundw
                      case rel => exact ⟨b + 1, by omega, by go_num, hgX, hbX, fun b' h1 => by
                        rcases Nat.lt_or_ge b' b with h2 | h2
                        · exact hnob.out b' h2
                        · obtain rfl : b' = b := by omega
                          rw [← HX.out]; exact HV.out⟩
                      case measure => simp [intOf]; omega
                ·
                  cases hasQ with
                  | false =>
                    obtain rfl : x0 = (P : Int) := HZP.out rfl
                    have t1 : ((pR : Int) == (P : Int)) = false := by simp; omega
                    have HV0 := HOKV.out
                    simp [hpp] at HV0
                    have HV := Lib.hid HV0
                    clear HV0
                    clear HOKV HZP HZQ hpp
                    (try simp only [Bool.not_true] at b2 b3 b3u); (try simp only [Bool.not_false] at b2 b3 b3u)
                    refine cS2.mono ?_; clear cS2; rintro e w12 ⟨rfl, rfl⟩
                    go_wp2
                    go_roundw
                    case rel => exact ⟨b + 1, by omega, by go_num, hgX, hbX, fun b' h1 => by
                      rcases Nat.lt_or_ge b' b with h2 | h2
                      · exact hnob.out b' h2
                      · obtain rfl : b' = b := by omega
                        rw [← HX.out]; exact HV.out⟩
                    case measure => simp [intOf]; omega
                  | true =>
                    by_cases hqq : qR = Q
                    ·
                      obtain rfl : x0 = (P : Int) := HZP.out rfl
                      obtain rfl : x1 = (Q : Int) := HZQ.out rfl
                      obtain rfl : qR = Q := hqq
                      have t1 : ((pR : Int) == (P : Int)) = false := by simp; omega
                      have t2 : ((qR : Int) == (qR : Int)) = true := by simp
                      have HV0 := HOKV.out
                      simp [hpp] at HV0
                      have HV := Lib.hid HV0
                      clear HV0
                      clear HOKV HZP HZQ hpp
                      (try simp only [Bool.not_true] at b2 b3 b3u); (try simp only [Bool.not_false] at b2 b3 b3u)
                      refine cS2.mono ?_; clear cS2; rintro e w12 ⟨rfl, rfl⟩
                      go_wp2
                      go_roundw
                      case rel => exact ⟨b + 1, by omega, by go_num, hgX, hbX, fun b' h1 => by
                        rcases Nat.lt_or_ge b' b with h2 | h2
                        · exact hnob.out b' h2
                        · obtain rfl : b' = b := by omega
                          rw [← HX.out]; exact HV.out⟩
                      case measure => simp [intOf]; omega
                    ·
                      obtain rfl : x0 = (P : Int) := HZP.out rfl
                      obtain rfl : x1 = (Q : Int) := HZQ.out rfl
                      have t1 : ((pR : Int) == (P : Int)) = false := by simp; omega
                      have t2 : ((qR : Int) == (Q : Int)) = false := by simp; omega
                      have HV0 := HOKV.out
                      simp [hpp, hqq] at HV0
                      have HV := Lib.hid HV0
                      clear HV0
                      clear HOKV HZP HZQ hpp hqq
                      (try simp only [Bool.not_true] at b2 b3 b3u); (try simp only [Bool.not_false] at b2 b3 b3u)
                      refine cS2.mono ?_; clear cS2; rintro e w12 ⟨rfl, rfl⟩
                      go_wp2
                      go_roundw
                      case rel => exact ⟨b + 1, by omega, by go_num, hgX, hbX, fun b' h1 => by
                        rcases Nat.lt_or_ge b' b with h2 | h2
                        · exact hnob.out b' h2
                        · obtain rfl : b' = b := by omega
                          rw [← HX.out]; exact HV.out⟩
                      case measure => simp [intOf]; omega
            · obtain rfl : b = 16 := by omega
              have hnoN : Hid (∀ a' b', a' < a + 1 → b' < 16 → okG (setG D [] a' b') n2 P Q hasP hasQ = false) := by
                intro a' b' h1 h2
                rcases Nat.lt_or_ge a' a with h4 | h4
                · exact hnoa.out a' b' h4 h2
                · obtain rfl : a' = a := by omega
                  exact hnob.out b' h2
              go_wp2
              go_roundw
              case rel => exact ⟨a + 1, by omega, by go_num, hgone, hbel, hnoN⟩
              case measure => simp [intOf]; omega
        · obtain rfl : a = 16 := by omega
          have hok : ok = false := by
            cases hk : ok with
            | false => rfl
            | true =>
              obtain ⟨x, y, hx, hy, hxy⟩ := HE.out hk
              rw [hnoa.out x y hx hy] at hxy
              cases hxy
          subst hok
          go_wp2
          go_ret2
          exact ⟨rfl, hbel⟩
set_option maxRecDepth 100000 in
set_option maxHeartbeats 3200000 in
theorem ref_DoubleFill1 (A A' : Option Addr) (n n2 c c' P Q : Nat) (i : Nat) (hasP hasQ ok : Bool) (l : List Int) (lost : List Bool) (D res : List Nat) (w : World) (h : Reads w w.heap.size A n (vi .i64 l)) (h' : Reads w w.heap.size A' n (vb lost)) (hcap : n ≤ c) (h3 : 3 ≤ n) (h14 : n ≤ 14) (hn2 : n2 + 2 ≤ n) (hn2' : n ≤ n2 + 2) (hin : i < n2)
    (hGL : Hid (goneL lost n2 = [i])) (hAG : Hid (True ∧ ∀ (i' a : Nat), i' = i → vi .i64 ((l.take n2).set i' (a : Int)) = vn .i64 (D.set i' a))) (HD16 : Hid (∀ x ∈ D, x < 16)) (hp0 : Hid (lost[n2]? = some (!hasP))) (hq0 : Hid (lost[n2 + 1]? = some (!hasQ))) (HZP' : Hid (hasP = true → l[n2]? = some (P : Int))) (HZQ' : Hid (hasQ = true → l[n2 + 1]? = some (Q : Int)))
    (HU : Hid (∀ a b, a < 16 → b < 16 → okG (setG D [i] a b) n2 P Q hasP hasQ = true → setG D [i] a b = res ∧ ok = true)) (HE : Hid (ok = true → ∃ a b, a < 16 ∧ b < 16 ∧ okG (setG D [i] a b) n2 P Q hasP hasQ = true)) :
    Calls Try.prog 32 #[.slice A n c, .slice A' n c'] w (RefP w res ok) := by
  have HL := Lib.hid h.int_len
  have HL' := Lib.hid h'.bool_len
  have i0 : (n : Int) - 2 = (n2 : Int) := by omega
  have j5 : (0 : Int) ≤ (n2 : Int) := by omega
  have j7 : (n2 : Int) < (n : Int) := by omega
  have j8 : (n2 : Int) + 1 < (n : Int) := by omega
  have j10 : (0 : Int) ≤ (n2 : Int) + 1 := by omega
  have j11 : ((n2 : Int) + 1).toNat = n2 + 1 := by omega
  have j3 : (n2 : Int) ≤ (c : Int) := by omega
  have j4 : n2 ≤ c := by omega
  have j12 : ¬ c = n2 := by omega
  have h1n : 1 ≤ n2 := by omega
  obtain ⟨ad, x0, rfl, hadb, hx0, hcx0⟩ := h.int_at (k := n2) (by omega)
  obtain ⟨ad1, x1, e1, _, hx1, hcx1⟩ := h.int_at (k := n2 + 1) (by omega)
  injection e1 with e1; subst e1
  obtain ⟨ad', y0, rfl, hadb', hy0, hcy0⟩ := h'.bool_at (k := n2) (by omega)
  obtain ⟨ad1', y1, e1, _, hy1, hcy1⟩ := h'.bool_at (k := n2 + 1) (by omega)
  injection e1 with e1; subst e1
  obtain rfl : y0 = !hasP := by have := hp0.out; rw [hy0] at this; injection this
  obtain rfl : y1 = !hasQ := by have := hq0.out; rw [hy1] at this; injection this
  have HZP : Hid (hasP = true → x0 = (P : Int)) := fun hh => by have := HZP'.out hh; rw [hx0] at this; injection this
  have HZQ : Hid (hasQ = true → x1 = (Q : Int)) := fun hh => by have := HZQ'.out hh; rw [hx1] at this; injection this
  have hLL : Hid ((l.take n2).length = n2) := by unfold Hid; rw [List.length_take, HL.out]; omega
  clear hx0 hx1 hy0 hy1
  go_enter Try.func32, Try.ntmps32
  go_wp2
  go_loopw [7, 8] (fun gv iv wr => ∃ k : Nat, k ≤ n2 ∧ iv = .int .i64 k ∧ Own wr w.heap.size 3 gv (vn .i64 (goneL lost k)) ∧ Below w.heap.size w wr) (fun _ iv _ => n2 - (intOf iv).toNat)
  case atStart => exact ⟨0, by omega, rfl, Own.nil _ _ _, Below.refl _ _⟩
  case round =>
    obtain ⟨k, hk, rfl, hgone, hbel⟩ := hrel
    by_cases hlt : k < n2
    · obtain ⟨ad2, y, e2, hb2', hy, hc0'⟩ := h'.bool_at (k := k) (by omega)
      injection e2 with e2; subst e2
      have hc' : wr.cell? (ad'.add k) = some (.bool y) := (hbel.cell (by rw [block_of_add]; exact hb2')).trans hc0'
      have hls : lsB lost k = y := by unfold lsB; rw [List.getD_eq_getElem?_getD, hy]; rfl
      have hGN := goneL_next lost k
      rw [hls] at hGN
      have hgl : (vn .i64 (goneL lost k)).length ≤ 14 := by rw [List.length_map]; unfold goneL; have := filt_len (lsB lost) k; omega
      have hB := hbel.size
      have j20 : (k : Int) < (n : Int) := by omega
      cases y with
      | true =>
        have HGN : Hid (vn .i64 (goneL lost k) ++ [Value.int .i64 (k : Int)] = vn .i64 (goneL lost (k + 1))) := by unfold Hid; rw [hGN]; simp [vn]
        clear hGN hy hls
        go_wp2_with (at_builtin; refine app1 el_intD rfl _ _ rfl rfl hgone (.int .i64 (k : Int)) _ rfl rfl (by unfold maxLen; omega) (by omega) hB ?_; intro v2 w2 ho2 hb2 _ _)
        go_roundw
        case rel => exact ⟨k + 1, by omega, by go_num, by rw [← HGN.out]; exact ho2, hbel.trans hb2⟩
        case measure => simp [intOf]; omega
      | false =>
        have HGN : Hid (goneL lost (k + 1) = goneL lost k) := by unfold Hid; rw [hGN]; simp
        clear hGN hy hls
        go_wp2
        go_roundw
        case rel => exact ⟨k + 1, by omega, by go_num, by rw [HGN.out]; exact hgone, hbel⟩
        case measure => simp [intOf]; omega
    · obtain rfl : n2 = k := by omega
      rw [hGL.out] at hgone
      obtain ⟨A8, c8, e8⟩ := hgone.form
      generalize hm8 : (vn .i64 [i]).length = m8 at e8
      subst e8
      have hm8a : m8 ≤ 1 := by rw [← hm8]; simp
      have hm8b : 1 ≤ m8 := by rw [← hm8]; simp
      clear hm8
      obtain ⟨ad8, rfl⟩ := hgone.reads.addr (by omega)
      obtain ⟨gg, rfl, hgg1, _⟩ := hgone.addr
      have m1 : (0 : Int) < (m8 : Int) := by omega
      have m2 : ¬ (1 : Int) < (m8 : Int) := by omega
      go_wp2
      go_loopw [9] (fun av wr => ∃ a : Nat, a ≤ 16 ∧ av = .int .i64 a ∧ Own wr w.heap.size 3 (.slice (some ⟨gg, 0, none⟩) m8 c8) (vn .i64 [i]) ∧ Below w.heap.size w wr ∧ Hid (∀ a' b', a' < a → b' < 16 → okG (setG D [i] a' b') n2 P Q hasP hasQ = false)) (fun av _ => 16 - (intOf av).toNat)
      case atStart => exact ⟨0, by omega, rfl, hgone, hbel, fun a' b' h1 => absurd h1 (by omega)⟩
      case round =>
        clear hgone hbel
        obtain ⟨a, ha16, rfl, hgone, hbel, hnoa⟩ := hrel
        by_cases ha : a < 16
        · have a1 : (a : Int) < 16 := by omega
          go_wp2
          go_loopw [10] (fun bv wr => ∃ b : Nat, b ≤ 16 ∧ bv = .int .i64 b ∧ Own wr w.heap.size 3 (.slice (some ⟨gg, 0, none⟩) m8 c8) (vn .i64 [i]) ∧ Below w.heap.size w wr ∧ Hid (∀ b', b' < b → okG (setG D [i] a b') n2 P Q hasP hasQ = false)) (fun bv _ => 16 - (intOf bv).toNat)
          case atStart => exact ⟨0, by omega, rfl, hgone, hbel, fun b' h1 => absurd h1 (by omega)⟩
          case round =>
            clear hgone hbel
            obtain ⟨b, hb16, rfl, hgone, hbel, hnob⟩ := hrel
            by_cases hb : b < 16
            · have b1 : (b : Int) < 16 := by omega
              have hoA : Own (wr.alloc (.cells #[] 3)) wr.heap.size 3 (.slice (some ⟨wr.heap.size, 0, none⟩) 0 0) [] := Own.built wr #[] 0 rfl (by unfold maxLen; omega) (Nat.le_refl _)
              have hrA : Reads (wr.alloc (.cells #[] 3)) w.heap.size (some ad) n2 (vi .i64 (l.take n2)) := by
                have := ((h.take (k := n2) (by omega)).below hbel).alloc hbel.size (.cells #[] 3)
                unfold vi; rw [List.map_take]; exact this
              have hbI := hbel.alloc hbel.size (.cells #[] 3)
              have hggw : gg < wr.heap.size := (hgone.lt gg rfl).2
              have q0 : wr.cell? ⟨gg, 0, none⟩ = some (.int .i64 (i : Int)) := by have := hgone.cell (j := 0) (u := .int .i64 (i : Int)) rfl; rwa [add_row] at this
              obtain ⟨X, hX0⟩ : ∃ X, X = D.set i a := ⟨_, rfl⟩
              have HX : Hid (X = setG D [i] a b) := hX0
              clear hX0
              have k1 : ¬ (1 : Int) < 1 := by omega
              go_wp2_with (at_builtin; refine appN el_intD rfl _ _ rfl rfl hoA rfl hrA (one_vi _) (by simp; unfold maxLen; omega) (by simp; omega) (by simp) ?_; clear hoA hrA; intro v2 w2 ho2 hb2 _ _; rw [List.nil_append] at ho2; obtain ⟨g2, c2, rfl, hg2, hl2, hu2⟩ := own_shape ho2 hLL.out h1n; obtain ⟨⟨y1, s1⟩, s2, s3⟩ := hu2 i hin a; have q1 : w2.cell? ⟨gg, 0, none⟩ = some (.int .i64 (i : Int)) := (hb2.cell (by show gg < wr.heap.size; omega)).trans ((World.cell?_alloc_lt wr _ _ (by show gg < wr.heap.size; omega)).trans q0); have q2 : (i : Int) < (n2 : Int) := (by omega))
              obtain ⟨W, hW⟩ : ∃ W, W = w2.setCell ⟨g2, i, none⟩ (.int .i64 (a : Int)) := ⟨_, rfl⟩
              have hbX : Below w.heap.size w W := by rw [hW]; exact (hbI.trans (hb2.mono hbel.size)).setCell (Nat.le_trans hbel.size hg2) _
              have hgX : Own W w.heap.size 3 (.slice (some ⟨gg, 0, none⟩) m8 c8) (vn .i64 [i]) := by rw [hW]; exact (hgone.below (((Below.refl _ _).alloc (Nat.le_refl _) _).trans hb2) (Nat.le_refl _)).setOther _ _ (by intro e; have := hgone.lt _ e; simp at this; omega)
              have hrX : Reads W W.heap.size (some ⟨g2, 0, none⟩) n2 (vn .i64 X) := by rw [hW, HX.out]; have := s3.reads; rw [hAG.out.2 i a rfl] at this; exact this
              rw [← hW]
              clear hW s1 s2
              have b2 : W.cell? (ad'.add n2) = some (.bool (!hasP)) := (hbX.cell (by rw [block_of_add]; exact hadb')).trans hcy0
              have b3 : W.cell? (ad'.add (n2 + 1)) = some (.bool (!hasQ)) := (hbX.cell (by rw [block_of_add]; exact hadb')).trans hcy1
              have b4 : W.cell? (ad.add n2) = some (.int .i64 x0) := (hbX.cell (by rw [block_of_add]; exact hadb)).trans hcx0
              have b5 : W.cell? (ad.add (n2 + 1)) = some (.int .i64 x1) := (hbX.cell (by rw [block_of_add]; exact hadb)).trans hcx1
              have b3u := b3
              have b5u := b5
              simp [Addr.add] at b3u b5u
              have hX16 : ∀ x ∈ X, x < 16 := by rw [HX.out]; exact setG_16 HD16.out ha hb
              have cS2 := ref_Doubles (some ⟨g2, 0, none⟩) n2 c2 X W hrX (by omega) hX16
              have HOKV : Hid (okG X n2 P Q hasP hasQ = ((!hasP || decide (dbA X n2 = P)) && (!hasQ || decide (dbB X n2 = Q)))) := rfl
              clear hX16
              generalize dbA X n2 = pR at *
              generalize dbB X n2 = qR at *
              cases hasP with
              | false =>
                cases hasQ with
                | false =>
                  have HV0 := HOKV.out
                  simp at HV0
                  have HV := Lib.hid HV0
                  clear HV0
                  clear HOKV HZP HZQ
                  (try simp only [Bool.not_true] at b2 b3 b3u); (try simp only [Bool.not_false] at b2 b3 b3u)
                  refine cS2.mono ?_; clear cS2; rintro e w12 ⟨rfl, rfl⟩
                  go_wp2
                  go_ret2
                  obtain ⟨hX, rfl⟩ := (HU.out a b ha hb (by rw [← HX.out]; exact HV.out))
                  exact ⟨_, _, _, rfl, by rw [← hX, ← HX.out]; exact hrX, hbX⟩
                | true =>
                  by_cases hqq : qR = Q
                  ·
                    obtain rfl : x1 = (Q : Int) := HZQ.out rfl
                    obtain rfl : qR = Q := hqq
                    have t2 : ((qR : Int) == (qR : Int)) = true := by simp
                    have HV0 := HOKV.out
                    simp at HV0
                    have HV := Lib.hid HV0
                    clear HV0
                    clear HOKV HZP HZQ
                    (try simp only [Bool.not_true] at b2 b3 b3u); (try simp only [Bool.not_false] at b2 b3 b3u)
                    refine cS2.mono ?_; clear cS2; rintro e w12 ⟨rfl, rfl⟩
                    go_wp2
                    go_ret2
                    obtain ⟨hX, rfl⟩ := (HU.out a b ha hb (by rw [← HX.out]; exact HV.out))
                    exact ⟨_, _, _, rfl, by rw [← hX, ← HX.out]; exact hrX, hbX⟩
                  ·
                    obtain rfl : x1 = (Q : Int) := HZQ.out rfl
                    have t2 : ((qR : Int) == (Q : Int)) = false := by simp; omega
                    have HV0 := HOKV.out
                    simp [hqq] at HV0
                    have HV := Lib.hid HV0
                    clear HV0
                    clear HOKV HZP HZQ hqq
                    (try simp only [Bool.not_true] at b2 b3 b3u); (try simp only [Bool.not_false] at b2 b3 b3u)
                    refine cS2.mono ?_; clear cS2; rintro e w12 ⟨rfl, rfl⟩
                    go_wp2
                    go_roundw
                    case rel => exact ⟨b + 1, by omega, by go_num, hgX, hbX, fun b' h1 => by
                      rcases Nat.lt_or_ge b' b with h2 | h2
                      · exact hnob.out b' h2
                      · obtain rfl : b' = b := by omega
                        rw [← HX.out]; exact HV.out⟩
                    case measure => simp [intOf]; omega
              | true =>
                by_cases hpp : pR = P
                ·
                  cases hasQ with
                  | false =>
                    obtain rfl : x0 = (P : Int) := HZP.out rfl
                    obtain rfl : pR = P := hpp
                    have t1 : ((pR : Int) == (pR : Int)) = true := by simp
                    have HV0 := HOKV.out
                    simp at HV0
                    have HV := Lib.hid HV0
                    clear HV0
                    clear HOKV HZP HZQ
                    (try simp only [Bool.not_true] at b2 b3 b3u); (try simp only [Bool.not_false] at b2 b3 b3u)
                    refine cS2.mono ?_; clear cS2; rintro e w12 ⟨rfl, rfl⟩
                    go_wp2
                    go_ret2
                    obtain ⟨hX, rfl⟩ := (HU.out a b ha hb (by rw [← HX.out]; exact HV.out))
                    exact ⟨_, _, _, rfl, by rw [← hX, ← HX.out]; exact hrX, hbX⟩
                  | true =>
                    by_cases hqq : qR = Q
                    ·
                      obtain rfl : x0 = (P : Int) := HZP.out rfl
                      obtain rfl : x1 = (Q : Int) := HZQ.out rfl
                      obtain rfl : pR = P := hpp
                      obtain rfl : qR = Q := hqq
                      have t1 : ((pR : Int) == (pR : Int)) = true := by simp
                      have t2 : ((qR : Int) == (qR : Int)) = true := by simp
                      have HV0 := HOKV.out
                      simp at HV0
                      have HV := Lib.hid HV0
                      clear HV0
                      clear HOKV HZP HZQ
                      (try simp only [Bool.not_true] at b2 b3 b3u); (try simp only [Bool.not_false] at b2 b3 b3u)
                      refine cS2.mono ?_; clear cS2; rintro e w12 ⟨rfl, rfl⟩
                      go_wp2
                      go_ret2
                      obtain ⟨hX, rfl⟩ := (HU.out a b ha hb (by rw [← HX.out]; exact HV.out))
                      exact ⟨_, _, _, rfl, by rw [← hX, ← HX.out]; exact hrX, hbX⟩
                    ·
                      obtain rfl : x0 = (P : Int) := HZP.out rfl
                      obtain rfl : x1 = (Q : Int) := HZQ.out rfl
                      obtain rfl : pR = P := hpp
                      have t1 : ((pR : Int) == (pR : Int)) = true := by simp
                      have t2 : ((qR : Int) == (Q : Int)) = false := by simp; omega
                      have HV0 := HOKV.out
                      simp [hqq] at HV0
                      have HV := Lib.hid HV0
                      clear HV0
                      clear HOKV HZP HZQ hqq
                      (try simp only [Bool.not_true] at b2 b3 b3u); (try simp only [Bool.not_false] at b2 b3 b3u)
                      refine cS2.mono ?_; clear cS2; rintro e w12 ⟨rfl, rfl⟩
                      go_wp2
                      go_roundw
                      case rel => exact ⟨b + 1, by omega, by go_num, hgX, hbX, fun b' h1 => by
                        rcases Nat.lt_or_ge b' b with h2 | h2
                        · exact hnob.out b' h2
                        · obtain rfl : b' = b := by omega
                          rw [← HX.out]; exact HV.out⟩
                      case measure => simp [intOf]; omega
                ·
                  cases hasQ with
                  | false =>
                    obtain rfl : x0 = (P : Int) := HZP.out rfl
                    have t1 : ((pR : Int) == (P : Int)) = false := by simp; omega
                    have HV0 := HOKV.out
                    simp [hpp] at HV0
                    have HV := Lib.hid HV0
                    clear HV0
                    clear HOKV HZP HZQ hpp
                    (try simp only [Bool.not_true] at b2 b3 b3u); (try simp only [Bool.not_false] at b2 b3 b3u)
                    refine cS2.mono ?_; clear cS2; rintro e w12 ⟨rfl, rfl⟩
                    go_wp2
                    go_roundw
                    case rel => exact ⟨b + 1, by omega, by go_num, hgX, hbX, fun b' h1 => by
                      rcases Nat.lt_or_ge b' b with h2 | h2
                      · exact hnob.out b' h2
                      · obtain rfl : b' = b := by omega
                        rw [← HX.out]; exact HV.out⟩
                    case measure => simp [intOf]; omega
                  | true =>
                    by_cases hqq : qR = Q
                    ·
                      obtain rfl : x0 = (P : Int) := HZP.out rfl
                      obtain rfl : x1 = (Q : Int) := HZQ.out rfl
                      obtain rfl : qR = Q := hqq
                      have t1 : ((pR : Int) == (P : Int)) = false := by simp; omega
                      have t2 : ((qR : Int) == (qR : Int)) = true := by simp
                      have HV0 := HOKV.out
                      simp [hpp] at HV0
                      have HV := Lib.hid HV0
                      clear HV0
                      clear HOKV HZP HZQ hpp
                      (try simp only [Bool.not_true] at b2 b3 b3u); (try simp only [Bool.not_false] at b2 b3 b3u)
                      refine cS2.mono ?_; clear cS2; rintro e w12 ⟨rfl, rfl⟩
                      go_wp2
                      go_roundw
                      case rel => exact ⟨b + 1, by omega, by go_num, hgX, hbX, fun b' h1 => by
                        rcases Nat.lt_or_ge b' b with h2 | h2
                        · exact hnob.out b' h2
                        · obtain rfl : b' = b := by omega
                          rw [← HX.out]; exact HV.out⟩
                      case measure => simp [intOf]; omega
                    ·
                      obtain rfl : x0 = (P : Int) := HZP.out rfl
                      obtain rfl : x1 = (Q : Int) := HZQ.out rfl
                      have t1 : ((pR : Int) == (P : Int)) = false := by simp; omega
                      have t2 : ((qR : Int) == (Q : Int)) = false := by simp; omega
                      have HV0 := HOKV.out
                      simp [hpp, hqq] at HV0
                      have HV := Lib.hid HV0
                      clear HV0
                      clear HOKV HZP HZQ hpp hqq
                      (try simp only [Bool.not_true] at b2 b3 b3u); (try simp only [Bool.not_false] at b2 b3 b3u)
                      refine cS2.mono ?_; clear cS2; rintro e w12 ⟨rfl, rfl⟩
                      go_wp2
                      go_roundw
                      case rel => exact ⟨b + 1, by omega, by go_num, hgX, hbX, fun b' h1 => by
                        rcases Nat.lt_or_ge b' b with h2 | h2
                        · exact hnob.out b' h2
                        · obtain rfl : b' = b := by omega
                          rw [← HX.out]; exact HV.out⟩
                      case measure => simp [intOf]; omega
            · obtain rfl : b = 16 := by omega
              have hnoN : Hid (∀ a' b', a' < a + 1 → b' < 16 → okG (setG D [i] a' b') n2 P Q hasP hasQ = false) := by
                intro a' b' h1 h2
                rcases Nat.lt_or_ge a' a with h4 | h4
                · exact hnoa.out a' b' h4 h2
                · obtain rfl : a' = a := by omega
                  exact hnob.out b' h2
              go_wp2
              go_roundw
              case rel => exact ⟨a + 1, by omega, by go_num, hgone, hbel, hnoN⟩
              case measure => simp [intOf]; omega
        · obtain rfl : a = 16 := by omega
          have hok : ok = false := by
            cases hk : ok with
            | false => rfl
            | true =>
              obtain ⟨x, y, hx, hy, hxy⟩ := HE.out hk
              rw [hnoa.out x y hx hy] at hxy
              cases hxy
          subst hok
          go_wp2
          go_ret2
          exact ⟨rfl, hbel⟩
set_option maxRecDepth 100000 in
set_option maxHeartbeats 3200000 in
theorem ref_DoubleFill2 (A A' : Option Addr) (n n2 c c' P Q : Nat) (i j : Nat) (hasP hasQ ok : Bool) (l : List Int) (lost : List Bool) (D res : List Nat) (w : World) (h : Reads w w.heap.size A n (vi .i64 l)) (h' : Reads w w.heap.size A' n (vb lost)) (hcap : n ≤ c) (h3 : 3 ≤ n) (h14 : n ≤ 14) (hn2 : n2 + 2 ≤ n) (hn2' : n ≤ n2 + 2) (hin : i < n2) (hjn : j < n2)
    (hGL : Hid (goneL lost n2 = [i, j])) (hAG : Hid (True ∧ ∀ (i' a j' b : Nat), [i', j'] = [i, j] → vi .i64 (((l.take n2).set i' (a : Int)).set j' (b : Int)) = vn .i64 ((D.set i' a).set j' b))) (HD16 : Hid (∀ x ∈ D, x < 16)) (hp0 : Hid (lost[n2]? = some (!hasP))) (hq0 : Hid (lost[n2 + 1]? = some (!hasQ))) (HZP' : Hid (hasP = true → l[n2]? = some (P : Int))) (HZQ' : Hid (hasQ = true → l[n2 + 1]? = some (Q : Int)))
    (HU : Hid (∀ a b, a < 16 → b < 16 → okG (setG D [i, j] a b) n2 P Q hasP hasQ = true → setG D [i, j] a b = res ∧ ok = true)) (HE : Hid (ok = true → ∃ a b, a < 16 ∧ b < 16 ∧ okG (setG D [i, j] a b) n2 P Q hasP hasQ = true)) :
    Calls Try.prog 32 #[.slice A n c, .slice A' n c'] w (RefP w res ok) := by
  have HL := Lib.hid h.int_len
  have HL' := Lib.hid h'.bool_len
  have i0 : (n : Int) - 2 = (n2 : Int) := by omega
  have j5 : (0 : Int) ≤ (n2 : Int) := by omega
  have j7 : (n2 : Int) < (n : Int) := by omega
  have j8 : (n2 : Int) + 1 < (n : Int) := by omega
  have j10 : (0 : Int) ≤ (n2 : Int) + 1 := by omega
  have j11 : ((n2 : Int) + 1).toNat = n2 + 1 := by omega
  have j3 : (n2 : Int) ≤ (c : Int) := by omega
  have j4 : n2 ≤ c := by omega
  have j12 : ¬ c = n2 := by omega
  have h1n : 1 ≤ n2 := by omega
  obtain ⟨ad, x0, rfl, hadb, hx0, hcx0⟩ := h.int_at (k := n2) (by omega)
  obtain ⟨ad1, x1, e1, _, hx1, hcx1⟩ := h.int_at (k := n2 + 1) (by omega)
  injection e1 with e1; subst e1
  obtain ⟨ad', y0, rfl, hadb', hy0, hcy0⟩ := h'.bool_at (k := n2) (by omega)
  obtain ⟨ad1', y1, e1, _, hy1, hcy1⟩ := h'.bool_at (k := n2 + 1) (by omega)
  injection e1 with e1; subst e1
  obtain rfl : y0 = !hasP := by have := hp0.out; rw [hy0] at this; injection this
  obtain rfl : y1 = !hasQ := by have := hq0.out; rw [hy1] at this; injection this
  have HZP : Hid (hasP = true → x0 = (P : Int)) := fun hh => by have := HZP'.out hh; rw [hx0] at this; injection this
  have HZQ : Hid (hasQ = true → x1 = (Q : Int)) := fun hh => by have := HZQ'.out hh; rw [hx1] at this; injection this
  have hLL : Hid ((l.take n2).length = n2) := by unfold Hid; rw [List.length_take, HL.out]; omega
  clear hx0 hx1 hy0 hy1
  go_enter Try.func32, Try.ntmps32
  go_wp2
  go_loopw [7, 8] (fun gv iv wr => ∃ k : Nat, k ≤ n2 ∧ iv = .int .i64 k ∧ Own wr w.heap.size 3 gv (vn .i64 (goneL lost k)) ∧ Below w.heap.size w wr) (fun _ iv _ => n2 - (intOf iv).toNat)
  case atStart => exact ⟨0, by omega, rfl, Own.nil _ _ _, Below.refl _ _⟩
  case round =>
    obtain ⟨k, hk, rfl, hgone, hbel⟩ := hrel
    by_cases hlt : k < n2
    · obtain ⟨ad2, y, e2, hb2', hy, hc0'⟩ := h'.bool_at (k := k) (by omega)
      injection e2 with e2; subst e2
      have hc' : wr.cell? (ad'.add k) = some (.bool y) := (hbel.cell (by rw [block_of_add]; exact hb2')).trans hc0'
      have hls : lsB lost k = y := by unfold lsB; rw [List.getD_eq_getElem?_getD, hy]; rfl
      have hGN := goneL_next lost k
      rw [hls] at hGN
      have hgl : (vn .i64 (goneL lost k)).length ≤ 14 := by rw [List.length_map]; unfold goneL; have := filt_len (lsB lost) k; omega
      have hB := hbel.size
      have j20 : (k : Int) < (n : Int) := by omega
      cases y with
      | true =>
        have HGN : Hid (vn .i64 (goneL lost k) ++ [Value.int .i64 (k : Int)] = vn .i64 (goneL lost (k + 1))) := by unfold Hid; rw [hGN]; simp [vn]
        clear hGN hy hls
        go_wp2_with (at_builtin; refine app1 el_intD rfl _ _ rfl rfl hgone (.int .i64 (k : Int)) _ rfl rfl (by unfold maxLen; omega) (by omega) hB ?_; intro v2 w2 ho2 hb2 _ _)
        go_roundw
        case rel => exact ⟨k + 1, by omega, by go_num, by rw [← HGN.out]; exact ho2, hbel.trans hb2⟩
        case measure => simp [intOf]; omega
      | false =>
        have HGN : Hid (goneL lost (k + 1) = goneL lost k) := by unfold Hid; rw [hGN]; simp
        clear hGN hy hls
        go_wp2
        go_roundw
        case rel => exact ⟨k + 1, by omega, by go_num, by rw [HGN.out]; exact hgone, hbel⟩
        case measure => simp [intOf]; omega
    · obtain rfl : n2 = k := by omega
      rw [hGL.out] at hgone
      obtain ⟨A8, c8, e8⟩ := hgone.form
      generalize hm8 : (vn .i64 [i, j]).length = m8 at e8
      subst e8
      have hm8a : m8 ≤ 2 := by rw [← hm8]; simp
      have hm8b : 2 ≤ m8 := by rw [← hm8]; simp
      clear hm8
      obtain ⟨ad8, rfl⟩ := hgone.reads.addr (by omega)
      obtain ⟨gg, rfl, hgg1, _⟩ := hgone.addr
      have m1 : (0 : Int) < (m8 : Int) := by omega
      have m2 : (1 : Int) < (m8 : Int) := by omega
      go_wp2
      go_loopw [9] (fun av wr => ∃ a : Nat, a ≤ 16 ∧ av = .int .i64 a ∧ Own wr w.heap.size 3 (.slice (some ⟨gg, 0, none⟩) m8 c8) (vn .i64 [i, j]) ∧ Below w.heap.size w wr ∧ Hid (∀ a' b', a' < a → b' < 16 → okG (setG D [i, j] a' b') n2 P Q hasP hasQ = false)) (fun av _ => 16 - (intOf av).toNat)
      case atStart => exact ⟨0, by omega, rfl, hgone, hbel, fun a' b' h1 => absurd h1 (by omega)⟩
      case round =>
        clear hgone hbel
        obtain ⟨a, ha16, rfl, hgone, hbel, hnoa⟩ := hrel
        by_cases ha : a < 16
        · have a1 : (a : Int) < 16 := by omega
          go_wp2
          go_loopw [10] (fun bv wr => ∃ b : Nat, b ≤ 16 ∧ bv = .int .i64 b ∧ Own wr w.heap.size 3 (.slice (some ⟨gg, 0, none⟩) m8 c8) (vn .i64 [i, j]) ∧ Below w.heap.size w wr ∧ Hid (∀ b', b' < b → okG (setG D [i, j] a b') n2 P Q hasP hasQ = false)) (fun bv _ => 16 - (intOf bv).toNat)
          case atStart => exact ⟨0, by omega, rfl, hgone, hbel, fun b' h1 => absurd h1 (by omega)⟩
          case round =>
            clear hgone hbel
            obtain ⟨b, hb16, rfl, hgone, hbel, hnob⟩ := hrel
            by_cases hb : b < 16
            · have b1 : (b : Int) < 16 := by omega
              have hoA : Own (wr.alloc (.cells #[] 3)) wr.heap.size 3 (.slice (some ⟨wr.heap.size, 0, none⟩) 0 0) [] := Own.built wr #[] 0 rfl (by unfold maxLen; omega) (Nat.le_refl _)
              have hrA : Reads (wr.alloc (.cells #[] 3)) w.heap.size (some ad) n2 (vi .i64 (l.take n2)) := by
                have := ((h.take (k := n2) (by omega)).below hbel).alloc hbel.size (.cells #[] 3)
                unfold vi; rw [List.map_take]; exact this
              have hbI := hbel.alloc hbel.size (.cells #[] 3)
              have hggw : gg < wr.heap.size := (hgone.lt gg rfl).2
              have q0 : wr.cell? ⟨gg, 0, none⟩ = some (.int .i64 (i : Int)) := by have := hgone.cell (j := 0) (u := .int .i64 (i : Int)) rfl; rwa [add_row] at this
              have q00 : wr.cell? ⟨gg, 1, none⟩ = some (.int .i64 (j : Int)) := by have := hgone.cell (j := 1) (u := .int .i64 (j : Int)) rfl; rwa [add_row] at this
              obtain ⟨X, hX0⟩ : ∃ X, X = (D.set i a).set j b := ⟨_, rfl⟩
              have HX : Hid (X = setG D [i, j] a b) := hX0
              clear hX0
              go_wp2_with (at_builtin; refine appN el_intD rfl _ _ rfl rfl hoA rfl hrA (one_vi _) (by simp; unfold maxLen; omega) (by simp; omega) (by simp) ?_; clear hoA hrA; intro v2 w2 ho2 hb2 _ _; rw [List.nil_append] at ho2; obtain ⟨g2, c2, rfl, hg2, hl2, hu2⟩ := own_shape ho2 hLL.out h1n; obtain ⟨⟨y1, s1⟩, s2, s3⟩ := hu2 i hin a; obtain ⟨⟨y4, s4⟩, s5, s6⟩ := own_store2 s3 hjn (by rw [List.length_set]; exact hLL.out) b; have q1 : w2.cell? ⟨gg, 0, none⟩ = some (.int .i64 (i : Int)) := (hb2.cell (by show gg < wr.heap.size; omega)).trans ((World.cell?_alloc_lt wr _ _ (by show gg < wr.heap.size; omega)).trans q0); have q4 : (w2.setCell ⟨g2, i, none⟩ (.int .i64 (a : Int))).cell? ⟨gg, 1, none⟩ = some (.int .i64 (j : Int)) := (World.cell?_setCell_other _ _ _ _ (fun e => by have := congrArg Addr.block e; simp at this; omega)).trans ((hb2.cell (by show gg < wr.heap.size; omega)).trans ((World.cell?_alloc_lt wr _ _ (by show gg < wr.heap.size; omega)).trans q00)); have q2 : (i : Int) < (n2 : Int) := (by omega); have q3 : (j : Int) < (n2 : Int) := (by omega))
              obtain ⟨W, hW⟩ : ∃ W, W = (w2.setCell ⟨g2, i, none⟩ (.int .i64 (a : Int))).setCell ⟨g2, j, none⟩ (.int .i64 (b : Int)) := ⟨_, rfl⟩
              have hbX : Below w.heap.size w W := by rw [hW]; exact ((hbI.trans (hb2.mono hbel.size)).setCell (p := ⟨g2, i, none⟩) (Nat.le_trans hbel.size hg2) _).setCell (p := ⟨g2, j, none⟩) (Nat.le_trans hbel.size hg2) _
              have hgX : Own W w.heap.size 3 (.slice (some ⟨gg, 0, none⟩) m8 c8) (vn .i64 [i, j]) := by rw [hW]; exact ((hgone.below (((Below.refl _ _).alloc (Nat.le_refl _) _).trans hb2) (Nat.le_refl _)).setOther _ _ (by intro e; have := hgone.lt _ e; simp at this; omega)).setOther _ _ (by intro e; have := hgone.lt _ e; simp at this; omega)
              have hrX : Reads W W.heap.size (some ⟨g2, 0, none⟩) n2 (vn .i64 X) := by rw [hW, HX.out]; have := s6.reads; rw [hAG.out.2 i a j b rfl] at this; exact this
              rw [← hW]
              clear hW s1 s2 s4 s5
              have b2 : W.cell? (ad'.add n2) = some (.bool (!hasP)) := (hbX.cell (by rw [block_of_add]; exact hadb')).trans hcy0
              have b3 : W.cell? (ad'.add (n2 + 1)) = some (.bool (!hasQ)) := (hbX.cell (by rw [block_of_add]; exact hadb')).trans hcy1
              have b4 : W.cell? (ad.add n2) = some (.int .i64 x0) := (hbX.cell (by rw [block_of_add]; exact hadb)).trans hcx0
              have b5 : W.cell? (ad.add (n2 + 1)) = some (.int .i64 x1) := (hbX.cell (by rw [block_of_add]; exact hadb)).trans hcx1
              have b3u := b3
              have b5u := b5
              simp [Addr.add] at b3u b5u
              have hX16 : ∀ x ∈ X, x < 16 := by rw [HX.out]; exact setG_16 HD16.out ha hb
              have cS2 := ref_Doubles (some ⟨g2, 0, none⟩) n2 c2 X W hrX (by omega) hX16
              have HOKV : Hid (okG X n2 P Q hasP hasQ = ((!hasP || decide (dbA X n2 = P)) && (!hasQ || decide (dbB X n2 = Q)))) := rfl
              clear hX16
              generalize dbA X n2 = pR at *
              generalize dbB X n2 = qR at *
              cases hasP with
              | false =>
                cases hasQ with
                | false =>
                  have HV0 := HOKV.out
                  simp at HV0
                  have HV := Lib.hid HV0
                  clear HV0
                  clear HOKV HZP HZQ
                  (try simp only [Bool.not_true] at b2 b3 b3u); (try simp only [Bool.not_false] at b2 b3 b3u)
                  refine cS2.mono ?_; clear cS2; rintro e w12 ⟨rfl, rfl⟩
                  go_wp2
                  go_ret2
                  obtain ⟨hX, rfl⟩ := (HU.out a b ha hb (by rw [← HX.out]; exact HV.out))
                  exact ⟨_, _, _, rfl, by rw [← hX, ← HX.out]; exact hrX, hbX⟩
                | true =>
                  by_cases hqq : qR = Q
                  ·
                    obtain rfl : x1 = (Q : Int) := HZQ.out rfl
                    obtain rfl : qR = Q := hqq
                    have t2 : ((qR : Int) == (qR : Int)) = true := by simp
                    have HV0 := HOKV.out
                    simp at HV0
                    have HV := Lib.hid HV0
                    clear HV0
                    clear HOKV HZP HZQ
                    (try simp only [Bool.not_true] at b2 b3 b3u); (try simp only [Bool.not_false] at b2 b3 b3u)
                    refine cS2.mono ?_; clear cS2; rintro e w12 ⟨rfl, rfl⟩
                    go_wp2
                    go_ret2
                    obtain ⟨hX, rfl⟩ := (HU.out a b ha hb (by rw [← HX.out]; exact HV.out))
                    exact ⟨_, _, _, rfl, by rw [← hX, ← HX.out]; exact hrX, hbX⟩
                  ·
                    obtain rfl : x1 = (Q : Int) := HZQ.out rfl
                    have t2 : ((qR : Int) == (Q : Int)) = false := by simp; omega
                    have HV0 := HOKV.out
                    simp [hqq] at HV0
                    have HV := Lib.hid HV0
                    clear HV0
                    clear HOKV HZP HZQ hqq
                    (try simp only [Bool.not_true] at b2 b3 b3u); (try simp only [Bool.not_false] at b2 b3 b3u)
                    refine cS2.mono ?_; clear cS2; rintro e w12 ⟨rfl, rfl⟩
                    go_wp2
                    go_roundw
                    case rel => exact ⟨b + 1, by omega, by go_num, hgX, hbX, fun b' h1 => by
                      rcases Nat.lt_or_ge b' b with h2 | h2
                      · exact hnob.out b' h2
                      · obtain rfl : b' = b := by omega
                        rw [← HX.out]; exact HV.out⟩
                    case measure => simp [intOf]; omega
              | true =>
                by_cases hpp : pR = P
                ·
                  cases hasQ with
                  | false =>
                    obtain rfl : x0 = (P : Int) := HZP.out rfl
                    obtain rfl : pR = P := hpp
                    have t1 : ((pR : Int) == (pR : Int)) = true := by simp
                    have HV0 := HOKV.out
                    simp at HV0
                    have HV := Lib.hid HV0
                    clear HV0
                    clear HOKV HZP HZQ
                    (try simp only [Bool.not_true] at b2 b3 b3u); (try simp only [Bool.not_false] at b2 b3 b3u)
                    refine cS2.mono ?_; clear cS2; rintro e w12 ⟨rfl, rfl⟩
                    go_wp2
                    go_ret2
                    obtain ⟨hX, rfl⟩ := (HU.out a b ha hb (by rw [← HX.out]; exact HV.out))
                    exact ⟨_, _, _, rfl, by rw [← hX, ← HX.out]; exact hrX, hbX⟩
                  | true =>
                    by_cases hqq : qR = Q
                    ·
                      obtain rfl : x0 = (P : Int) := HZP.out rfl
                      obtain rfl : x1 = (Q : Int) := HZQ.out rfl
                      obtain rfl : pR = P := hpp
                      obtain rfl : qR = Q := hqq
                      have t1 : ((pR : Int) == (pR : Int)) = true := by simp
                      have t2 : ((qR : Int) == (qR : Int)) = true := by simp
                      have HV0 := HOKV.out
                      simp at HV0
                      have HV := Lib.hid HV0
                      clear HV0
                      clear HOKV HZP HZQ
                      (try simp only [Bool.not_true] at b2 b3 b3u); (try simp only [Bool.not_false] at b2 b3 b3u)
                      refine cS2.mono ?_; clear cS2; rintro e w12 ⟨rfl, rfl⟩
                      go_wp2
                      go_ret2
                      obtain ⟨hX, rfl⟩ := (HU.out a b ha hb (by rw [← HX.out]; exact HV.out))
                      exact ⟨_, _, _, rfl, by rw [← hX, ← HX.out]; exact hrX, hbX⟩
                    ·
                      obtain rfl : x0 = (P : Int) := HZP.out rfl
                      obtain rfl : x1 = (Q : Int) := HZQ.out rfl
                      obtain rfl : pR = P := hpp
                      have t1 : ((pR : Int) == (pR : Int)) = true := by simp
                      have t2 : ((qR : Int) == (Q : Int)) = false := by simp; omega
                      have HV0 := HOKV.out
                      simp [hqq] at HV0
                      have HV := Lib.hid HV0
                      clear HV0
                      clear HOKV HZP HZQ hqq
                      (try simp only [Bool.not_true] at b2 b3 b3u); (try simp only [Bool.not_false] at b2 b3 b3u)
                      refine cS2.mono ?_; clear cS2; rintro e w12 ⟨rfl, rfl⟩
                      go_wp2
                      go_roundw
                      case rel => exact ⟨b + 1, by omega, by go_num, hgX, hbX, fun b' h1 => by
                        rcases Nat.lt_or_ge b' b with h2 | h2
                        · exact hnob.out b' h2
                        · obtain rfl : b' = b := by omega
                          rw [← HX.out]; exact HV.out⟩
                      case measure => simp [intOf]; omega
                ·
                  cases hasQ with
                  | false =>
                    obtain rfl : x0 = (P : Int) := HZP.out rfl
                    have t1 : ((pR : Int) == (P : Int)) = false := by simp; omega
                    have HV0 := HOKV.out
                    simp [hpp] at HV0
                    have HV := Lib.hid HV0
                    clear HV0
                    clear HOKV HZP HZQ hpp
                    (try simp only [Bool.not_true] at b2 b3 b3u); (try simp only [Bool.not_false] at b2 b3 b3u)
                    refine cS2.mono ?_; clear cS2; rintro e w12 ⟨rfl, rfl⟩
                    go_wp2
                    go_roundw
                    case rel => exact ⟨b + 1, by omega, by go_num, hgX, hbX, fun b' h1 => by
                      rcases Nat.lt_or_ge b' b with h2 | h2
                      · exact hnob.out b' h2
                      · obtain rfl : b' = b := by omega
                        rw [← HX.out]; exact HV.out⟩
                    case measure => simp [intOf]; omega
                  | true =>
                    by_cases hqq : qR = Q
                    ·
                      obtain rfl : x0 = (P : Int) := HZP.out rfl
                      obtain rfl : x1 = (Q : Int) := HZQ.out rfl
                      obtain rfl : qR = Q := hqq
                      have t1 : ((pR : Int) == (P : Int)) = false := by simp; omega
                      have t2 : ((qR : Int) == (qR : Int)) = true := by simp
                      have HV0 := HOKV.out
                      simp [hpp] at HV0
                      have HV := Lib.hid HV0
                      clear HV0
                      clear HOKV HZP HZQ hpp
                      (try simp only [Bool.not_true] at b2 b3 b3u); (try simp only [Bool.not_false] at b2 b3 b3u)
                      refine cS2.mono ?_; clear cS2; rintro e w12 ⟨rfl, rfl⟩
                      go_wp2
                      go_roundw
                      case rel => exact ⟨b + 1, by omega, by go_num, hgX, hbX, fun b' h1 => by
                        rcases Nat.lt_or_ge b' b with h2 | h2
                        · exact hnob.out b' h2
                        · obtain rfl : b' = b := by omega
                          rw [← HX.out]; exact HV.out⟩
                      case measure => simp [intOf]; omega
                    ·
                      obtain rfl : x0 = (P : Int) := HZP.out rfl
                      obtain rfl : x1 = (Q : Int) := HZQ.out rfl
                      have t1 : ((pR : Int) == (P : Int)) = false := by simp; omega
                      have t2 : ((qR : Int) == (Q : Int)) = false := by simp; omega
                      have HV0 := HOKV.out
                      simp [hpp, hqq] at HV0
                      have HV := Lib.hid HV0
                      clear HV0
                      clear HOKV HZP HZQ hpp hqq
                      (try simp only [Bool.not_true] at b2 b3 b3u); (try simp only [Bool.not_false] at b2 b3 b3u)
                      refine cS2.mono ?_; clear cS2; rintro e w12 ⟨rfl, rfl⟩
                      go_wp2
                      go_roundw
                      case rel => exact ⟨b + 1, by omega, by go_num, hgX, hbX, fun b' h1 => by
                        rcases Nat.lt_or_ge b' b with h2 | h2
                        · exact hnob.out b' h2
                        · obtain rfl : b' = b := by omega
                          rw [← HX.out]; exact HV.out⟩
                      case measure => simp [intOf]; omega
            · obtain rfl : b = 16 := by omega
              have hnoN : Hid (∀ a' b', a' < a + 1 → b' < 16 → okG (setG D [i, j] a' b') n2 P Q hasP hasQ = false) := by
                intro a' b' h1 h2
                rcases Nat.lt_or_ge a' a with h4 | h4
                · exact hnoa.out a' b' h4 h2
                · obtain rfl : a' = a := by omega
                  exact hnob.out b' h2
              go_wp2
              go_roundw
              case rel => exact ⟨a + 1, by omega, by go_num, hgone, hbel, hnoN⟩
              case measure => simp [intOf]; omega
        · obtain rfl : a = 16 := by omega
          have hok : ok = false := by
            cases hk : ok with
            | false => rfl
            | true =>
              obtain ⟨x, y, hx, hy, hxy⟩ := HE.out hk
              rw [hnoa.out x y hx hy] at hxy
              cases hxy
          subst hok
          go_wp2
          go_ret2
          exact ⟨rfl, hbel⟩
end Go.Proofs.Ythbmnaonnebnhaa

/-
  unique.find: two lists that are alike, or none, for a code without an empty word.
-/
import Derived.Test.YtpbffbhebdcpbaaUnf
import Derived.Deep.LoopGhost
set_option linter.unusedVariables false
namespace Go.Proofs.Ytpbffbhebdcpbaa
open Go.RowKit

theorem QR.push2 {T I : TypeId} {w w' : World} {base : Nat} {s : US} {vs : List Value} {q : List US} {xss : List (List Value)} {v' : Value} (h2 : xss.length = q.length) (h3 : ∀ (i : Nat) (s : US), q[i]? = some s → ∃ vs, xss[i]? = some vs ∧ USV I w base s vs) (hI : I ≠ T) (hb : Below base w w') (hk : Kt T w w')
    (hs : USV I w' base s vs) (hnew : OwnQ w' base T 3 v' (xss ++ [vs])) : QR T I w' base v' (q ++ [s]) := by
  refine ⟨xss ++ [vs], hnew, by simp [h2], fun i t ht => ?_⟩
  rcases Nat.lt_or_ge i q.length with hi | hi
  · rw [List.getElem?_append_left hi] at ht
    obtain ⟨vs', e, hv⟩ := h3 i t ht
    exact ⟨vs', by rw [List.getElem?_append_left (by omega)]; exact e, hv.kt hI hb hk⟩
  · rw [List.getElem?_append_right hi] at ht
    have hi0 : i - q.length = 0 := by
      have := (List.getElem?_eq_some_iff.1 ht).1
      simp only [List.length_cons, List.length_nil] at this; omega
    rw [hi0] at ht
    injection ht with ht
    subst ht
    exact ⟨vs, by rw [List.getElem?_append_right (by omega), show i - xss.length = 0 by omega]; rfl, hs⟩
theorem one_row (w : World) (base : Nat) (i g : Nat) (hB : base ≤ w.heap.size) (hg : w.heap.size = g) : Own (w.alloc (.cells #[.int .i64 (i : Int)] 3)) base 3 (.slice (some ⟨g, 0, none⟩) 1 1) (vn .i64 [i]) := by
  subst hg
  exact Own.built (base := base) (E := 3) w #[.int .i64 (i : Int)] 1 rfl (by unfold maxLen; omega) hB
theorem OwnQ.ktGrown {T : TypeId} {w w' : World} {base k : Nat} {v : Value} {xss : List (List Value)} (h : OwnQ w base T k v xss) (hg : w.grownBy w' v.ownBlock) : Kt T w w' :=
  Kt.grown hg fun g hv cs E m hc => by
    obtain ⟨cur, hcur⟩ := h.ty hv
    rw [hc] at hcur
    injection hcur with h1
    injection h1
/-- what the inner loop keeps: the queue with the state that was taken still ahead, the state's box, the counts, the two lists -/
structure L4 (w0 wi : World) (base bx bm : Nat) (C : List (List Bool)) (s : US) (q : List US) (f : List Bool → Nat) (T : Nat) (Ar : Option Addr) (nr cr : Nat) (Aa : Option Addr) (na ca : Nat) (Ab : Option Addr) (nb cb : Nat) (qv : Value) (k : Nat) : Prop where
  qr : QR 77 3 wi base qv (s :: (q ++ pushS C s k))
  ne : ∀ g, qv.ownBlock = some g → g ≠ bx
  bel : Below base w0 wi
  box : BoxV wi bx 77 [.slice Ar nr cr, .slice Aa na ca, .slice Ab nb cb]
  map : MapS Try.prog 9 3 wi bm T f
  oa : Own wi base 3 (.slice Aa na ca) (vn .i64 s.a)
  ob : Own wi base 3 (.slice Ab nb cb) (vn .i64 s.b)
  lo : base ≤ wi.heap.size
section
variable {w0 wi w' : World} {base bx bm : Nat} {C : List (List Bool)} {s t : US} {q : List US} {f f' : List Bool → Nat} {T : Nat} {Ar : Option Addr} {nr cr : Nat} {Aa : Option Addr} {na ca : Nat} {Ab : Option Addr} {nb cb : Nat} {qv v' : Value} {k : Nat}
theorem L4.below (h : L4 w0 wi base bx bm C s q f T Ar nr cr Aa na ca Ab nb cb qv k) (hb : Below wi.heap.size wi w') : L4 w0 w' base bx bm C s q f T Ar nr cr Aa na ca Ab nb cb qv k :=
  ⟨h.qr.below ne_TI h.lo hb, h.ne, h.bel.trans (hb.mono h.lo), h.box.below hb, h.map.keep (hb.block _ h.map.lt), h.oa.below hb (Nat.le_refl _), h.ob.below hb (Nat.le_refl _), Nat.le_trans h.lo hb.size⟩
theorem L4.mapput (h : L4 w0 wi base bx bm C s q f T Ar nr cr Aa na ca Ab nb cb qv k) (hm : MapS Try.prog 9 3 w' bm (T + 1) f') (hg : wi.grownBy w' (some bm)) (hbm : base ≤ bm) : L4 w0 w' base bx bm C s q f' (T + 1) Ar nr cr Aa na ca Ab nb cb qv k := by
  have hb := (Below.refl base wi).grown hg h.lo (fun g e => by injection e with e; omega)
  have hk : Kt 77 wi w' := Kt.grown hg fun g e cs E m hc => by
    injection e with e; subst e
    exact absurd hc h.map.noCells
  refine ⟨h.qr.kt ne_TI hb hk (fun g e => hg.block g (h.qr.lt g e).2 (fun e2 => ?_)), h.ne, h.bel.trans hb, h.box.ch (Ch.of_grown hg) (fun e => ?_), hm, h.oa.kt ne_TI hk, h.ob.kt ne_TI hk, Nat.le_trans h.lo hg.size⟩
  · injection e2 with e2; subst e2
    obtain ⟨cur, hc⟩ := h.qr.ty e
    exact h.map.noCells hc
  · injection e with e; subst e
    exact h.map.noCells h.box
theorem L4.push (h : L4 w0 wi base bx bm C s q f T Ar nr cr Aa na ca Ab nb cb qv k) {xss : List (List Value)} {vs : List Value} (ho : OwnQ wi base 77 3 qv xss) (hxl : xss.length = (s :: (q ++ pushS C s k)).length)
    (hxs : ∀ (i : Nat) (t : US), (s :: (q ++ pushS C s k))[i]? = some t → ∃ vs, xss[i]? = some vs ∧ USV 3 wi base t vs) (hg : wi.grownBy w' qv.ownBlock) (hat : v'.ownBlock = qv.ownBlock ∨ v'.ownBlock = some wi.heap.size)
    (ho' : OwnQ w' base 77 3 v' (xss ++ [vs])) (hus : USV 3 w' base t vs) (hp : Hid (pushS C s (k + 1) = pushS C s k ++ [t])) : L4 w0 w' base bx bm C s q f T Ar nr cr Aa na ca Ab nb cb v' (k + 1) := by
  have hk := ho.ktGrown hg
  have hb := (Below.refl base wi).grown hg h.lo (fun g e => (ho.lt g e).1)
  refine ⟨?_, fun g e => ?_, h.bel.trans hb, h.box.ch (Ch.of_grown hg) (fun e => h.ne _ e rfl), h.map.keep (hg.block _ h.map.lt (fun e => ?_)), h.oa.kt ne_TI hk, h.ob.kt ne_TI hk, Nat.le_trans h.lo hg.size⟩
  · have := QR.push2 hxl hxs ne_TI hb hk hus ho'
    rw [hp.out, ← List.append_assoc]
    exact this
  · rcases hat with h1 | h1
    · exact h.ne g (h1.symm.trans e)
    · rw [h1] at e; injection e with e; have := h.box.lt; omega
  · obtain ⟨cur, hc⟩ := ho.ty e.symm
    exact h.map.noCells hc
end
theorem QR.tail {T I : TypeId} {w : World} {base : Nat} {A : Option Addr} {n c : Nat} {s : US} {q : List US} (h : QR T I w base (.slice A n c) (s :: q)) : ∃ gb off, A = some ⟨gb, off, none⟩ ∧ n = q.length + 1 ∧ n ≤ c ∧ QR T I w base (.slice (some (if c = 1 then ⟨gb, off, none⟩ else ⟨gb, off + 3, none⟩)) q.length (c - 1)) q := by
  obtain ⟨xss, ho, hxl, hxs⟩ := h
  obtain ⟨vs, xt, rfl⟩ : ∃ vs xt, xss = vs :: xt := by
    cases xss with
    | nil => simp at hxl
    | cons v t => exact ⟨v, t, rfl⟩
  obtain ⟨ad, rfl, hsp, hnl, hcl, htail⟩ := ho.tail
  obtain ⟨gb, off, sp⟩ := ad
  obtain rfl : sp = none := hsp
  have hl : xt.length = q.length := by simpa using hxl
  rw [hl] at hnl hcl htail
  refine ⟨gb, off, rfl, hnl, by omega, xt, htail, hl, fun i t ht => ?_⟩
  obtain ⟨vs', e, hv⟩ := hxs (i + 1) t (by simpa using ht)
  exact ⟨vs', by simpa using e, hv⟩
theorem seen_skip {f : List Bool → Nat} {r : List Bool} {v : Nat} (hv : f r = v) (h : 1 ≤ v) : (fun x => decide (1 ≤ (if x = r then v + 1 else f x))) = fun x => decide (1 ≤ f x) := by
  funext x
  by_cases e : x = r
  · subst e; rw [if_pos rfl, hv]
    have h1 : decide (1 ≤ v + 1) = true := by simp
    have h2 : decide (1 ≤ v) = true := by simpa using h
    rw [h1, h2]
  · rw [if_neg e]
theorem seen_next {f : List Bool → Nat} {r : List Bool} : (fun x => decide (1 ≤ (if x = r then 0 + 1 else f x))) = fun x => decide (x = r) || decide (1 ≤ f x) := by
  funext x
  by_cases e : x = r
  · subst e; simp
  · rw [if_neg e]; simp [e]
theorem natP1 (v : Nat) : ((v + 1 : Nat) : Int) = (v : Int) + 1 := by omega
theorem one_vnU (l : List Nat) : ∀ u ∈ vn .i64 l, u.oneCell' = true := by
  intro u hu
  obtain ⟨b, _, rfl⟩ := List.mem_map.1 hu
  rfl
set_option maxHeartbeats 1600000 in
set_option maxRecDepth 100000 in
theorem unique_find_main (A : Option Addr) (n c : Nat) (C : List (List Bool)) (w : World) (h : Reads2c w w.heap.size A n C) (hn : n ≤ 8) (h8 : ∀ l ∈ C, l.length ≤ 8) (hC : [] ∉ C) (hk : Hid (idxOf (fun k => decide ((C.getD k []).length = 0)) n = -1)) :
    Calls Try.prog 27 #[.slice A n c] w (FindP w C) := by
  have cI := idx_find1 A n c C (-1) w h (by unfold maxLen; omega) hk
  have HLEN := Lib.hid h.plain.length
  have H8 := Lib.hid h8
  have HC := Lib.hid hC
  clear hk h8 hC
  go_enter Try.func27, Try.ntmps27
  go_wp2_with (go_at_call 42; refine cI.mono ?_; clear cI; rintro e w1 ⟨rfl, m1, rfl⟩)
  go_loopw [23, 5, 6, 7, 8, 9] (fun iv qv _ _ _ _ wr => ∃ i : Nat, i ≤ n ∧ iv = .int .i64 i ∧ QR 77 3 wr w.heap.size qv (startI C n i) ∧ Below w.heap.size w wr) (fun iv _ _ _ _ _ _ => n - (intOf iv).toNat)
  case atStart => exact ⟨0, by omega, rfl, QR.nil _ _ _ _, below_drewN (Below.refl _ _) _⟩
  case round =>
    obtain ⟨i, hi, rfl, hq, hb⟩ := hrel
    by_cases hlt : i < n
    · obtain ⟨ad, a, A1, n1, c1, e, hx, hc1, hr1, hm1, hl1, hk1⟩ := (h.below hb).row hlt
      subst e
      have HX := Lib.hid hx
      have HR1 := Lib.hid hr1
      have hn18 : n1 ≤ 8 := by rw [← hl1]; exact H8.out _ (mem_at hx)
      have hn1 : 0 < n1 := by
        rcases Nat.eq_zero_or_pos n1 with h0 | h0
        · exact absurd (mem_at hx) (by rw [List.eq_nil_of_length_eq_zero (hl1.trans h0)]; exact HC.out)
        · exact h0
      obtain ⟨ad1, rfl⟩ := hr1.addr hn1
      clear hx hl1 hm1 hr1
      have i0 : (0 : Int) ≤ (i : Int) := by omega
      have i1 : (i : Int) < (n : Int) := by omega
      have hwb := hb.size
      go_wp2
      obtain ⟨wo, rfl⟩ : ∃ x, x = wr := ⟨_, rfl⟩
      have HB := Lib.hid hb
      clear hb
      go_loopw [30, 5, 8, 9] (fun jv qv _ _ wi => ∃ j : Nat, j ≤ n ∧ jv = .int .i64 j ∧ QR 77 3 wi w.heap.size qv (startI C n i ++ startJ C i j) ∧ Below w.heap.size wo wi) (fun jv _ _ _ _ => n - (intOf jv).toNat)
      case atStart => exact ⟨0, by omega, rfl, by simpa [startJ] using hq, Below.refl _ _⟩
      case round =>
        obtain ⟨j, hj, rfl, hqi, hbi⟩ := hrel
        by_cases hltj : j < n
        · obtain ⟨ad2, b, A2, n2, c2, e, hy, hc2, hr2, hm2, hl2, hk2⟩ := (h.below (HB.out.trans hbi)).row hltj
          injection e with e
          subst e
          have hr1' := HR1.out.below hbi
          have cb := prefix_Begins A2 (some ad1) n2 n1 c2 c1 b a wr hr2 hr1' hm2 (by unfold maxLen; omega) hk1
          have HY := Lib.hid hy
          have hbegl : begB b a = true → n2 ≤ n1 := fun hbg => by
            have := congrArg List.length (begB_true hbg)
            rw [List.length_append] at this
            have h1 := hr1'.bool_len
            omega
          have HBL := Lib.hid hbegl
          have j0 : (0 : Int) ≤ (j : Int) := by omega
          have j1 : (j : Int) < (n : Int) := by omega
          have hswi := hbi.size
          clear hy hbegl hm2
          by_cases hij : i = j
          · have hne : ((i : Int) != (j : Int)) = false := by simp; omega
            have HN := Lib.hid (startJ_no HX.out HY.out (.inl hij))
            clear hij
            go_wp2
            go_roundw
            case rel => exact ⟨j + 1, by omega, by go_num, by rw [HN.out]; exact hqi, hbi⟩
            case measure => simp only [intOf]; omega
          · have hne : ((i : Int) != (j : Int)) = true := by simp; omega
            cases hbg : begB b a
            · rw [hbg] at cb
              have HN := Lib.hid (startJ_no HX.out HY.out (.inr hbg))
              clear hbg hij
              go_wp2_with (go_at_call 44; refine cb.mono ?_; rintro e w' ⟨rfl, m2, rfl⟩)
              go_roundw
              case rel => exact ⟨j + 1, by omega, by go_num, by rw [HN.out]; exact hqi.drewN m2, below_drewN hbi m2⟩
              case measure => simp only [intOf]; omega
            · rw [hbg] at cb
              have HN := Lib.hid (startJ_hit HX.out HY.out hij hbg)
              have hle := HBL.out hbg
              have l0 : (0 : Int) ≤ (n2 : Int) := by omega
              have l1 : (n2 : Int) ≤ (n1 : Int) := by omega
              have HRD := Lib.hid (reads_from hr1' hn1 hle hk1)
              have hql : (startI C n i ++ startJ C i j).length ≤ 72 := by
                have h1 := startI_len C n i
                have h2 := startJ_len C i j
                have h3 : i * n ≤ 8 * 8 := Nat.mul_le_mul (by omega) hn
                rw [List.length_append]; omega
              obtain ⟨xss, ho, hxl, hxs⟩ := hqi
              have hxl8 : xss.length ≤ 72 := by omega
              have HO := Lib.hid ho
              have HXL := Lib.hid hxl
              have HXS := Lib.hid hxs
              clear hbg hij ho hxl hxs hql
              go_wp2_with (first
                | (go_at_call 44; refine cb.mono ?_; clear cb; rintro e w' ⟨rfl, m2, rfl⟩)
                | (at_builtin; refine app1Q el_us rfl _ _ rfl rfl (((HO.out.drewN m2).alloc (.cells #[.int .i64 (i : Int)] 3)).alloc (.cells #[.int .i64 (j : Int)] 3)) #[.slice (if c1 = n2 then some ad1 else some (ad1.add n2)) (n1 - n2) (c1 - n2), .slice (some ⟨wr.heap.size, 0, none⟩) 1 1, .slice (some ⟨wr.heap.size + 1, 0, none⟩) 1 1] _ (by first | rfl | (go_simp; done) | (go_simp; rfl)) rfl (by intro u hu; simp only [List.mem_cons, List.not_mem_nil, or_false] at hu; rcases hu with rfl | rfl | rfl <;> rfl) (by unfold maxLen; omega) (by omega) (by simp; omega) ?_; intro v6 w6 ho6 hb6 hg6 hat6))
              have hW : OwnQ _ _ _ _ _ _ := ((HO.out.drewN m2).alloc (.cells #[.int .i64 (i : Int)] 3)).alloc (.cells #[.int .i64 (j : Int)] 3)
              have hkt := hW.ktGrown hg6
              have hoi := ((one_row (wr.drewN m2) w.heap.size i wr.heap.size (by show w.heap.size ≤ wr.heap.size; omega) rfl).alloc (.cells #[.int .i64 (j : Int)] 3)).kt ne_TI hkt
              have hoj := (one_row ((wr.drewN m2).alloc (.cells #[.int .i64 (i : Int)] 3)) w.heap.size j (wr.heap.size + 1) (by rw [World.size_alloc]; show w.heap.size ≤ wr.heap.size + 1; omega) (by rw [World.size_alloc]; rfl)).kt ne_TI hkt
              have hbW : Below w.heap.size wr w6 := (((below_drewN (Below.refl _ wr) m2).alloc (by show w.heap.size ≤ wr.heap.size; omega) (.cells #[.int .i64 (i : Int)] 3)).alloc (by rw [World.size_alloc]; show w.heap.size ≤ wr.heap.size + 1; omega) (.cells #[.int .i64 (j : Int)] 3)).trans hb6
              have hbV : Below wo.heap.size wr w6 → True := fun _ => trivial
              have hktW : Kt 77 wr w6 := ((((Kt.refl wr).drewN m2).alloc (.cells #[.int .i64 (i : Int)] 3)).alloc (.cells #[.int .i64 (j : Int)] 3)).trans hkt
              have hdl : b.length = n2 := hr2.bool_len
              have hus : USV 3 w6 w.heap.size ⟨a.drop b.length, [i], [j]⟩ [.slice (if c1 = n2 then some ad1 else some (ad1.add n2)) (n1 - n2) (c1 - n2), .slice (some ⟨wr.heap.size, 0, none⟩) 1 1, .slice (some ⟨wr.heap.size + 1, 0, none⟩) 1 1] :=
                ⟨_, _, _, _, _, rfl, by rw [hdl]; exact HRD.out.below hbW, by omega, hoi, hoj⟩
              have hQ6 := QR.push2 HXL.out HXS.out ne_TI hbW hktW hus ho6
              rw [List.append_assoc, ← HN.out] at hQ6
              clear hus hkt hoi hoj hktW hg6 hat6 ho6 hb6 hW hdl
              go_roundw
              case rel => exact ⟨j + 1, by omega, by go_num, hQ6, hbi.trans hbW⟩
              case measure => simp only [intOf]; omega
        · obtain rfl : j = n := by omega
          go_wp2
          go_roundw
          case rel => exact ⟨i + 1, by omega, by go_num, by rw [startI]; exact hqi, HB.out.trans hbi⟩
          case measure => simp only [intOf]; omega
    · obtain rfl : n = i := by omega
      have i1 : ¬ (n : Int) < (n : Int) := by omega
      have HS : Hid (UInv C (fun r => decide (1 ≤ (fun _ => 0 : List Bool → Nat) r)) (startI C n n)) := by
        have := UInv.start C (by rw [HLEN.out]; exact hn)
        rw [HLEN.out] at this
        exact this
      have HM0 : Hid ((startI C n n).length + 9 * unseen C (fun r => decide (1 ≤ (fun _ => 0 : List Bool → Nat) r)) ≤ 712) := by
        unfold Hid
        have h1 := startI_len C n n
        have h2 := unseen_le C (fun r => decide (1 ≤ (fun _ => 0 : List Bool → Nat) r))
        have h3 : n * n ≤ 8 * 8 := Nat.mul_le_mul hn hn
        rw [HLEN.out] at h2
        omega
      have hmk := @run_makeMap Try.prog
      go_wp2
      clear hmk
      have hszb : w.heap.size ≤ wr.heap.size := hb.size
      have hmap0 := MapS.made wr Try.prog 9 3
      have hq0 := hq.below ne_TI hszb ((Below.refl wr.heap.size wr).alloc (Nat.le_refl _) (.map #[] 0))
      have hb0 := hb.alloc hszb (.map #[] 0)
      clear hq hb
      generalize hbm : wr.heap.size = bm at *
      generalize hwb : wr.alloc (.map #[] 0) = wb at *
      clear hbm hwb
      go_loopg [5, 11, 12, 13, 14, 99, 116] 712 (fun gk qv _ _ _ _ _ _ wr' => ∃ (q : List US) (f : List Bool → Nat) (T : Nat), QR 77 3 wr' w.heap.size qv q ∧ Below w.heap.size w wr' ∧ MapS Try.prog 9 3 wr' bm T f ∧ Hid (UInv C (fun r => decide (1 ≤ f r)) q) ∧ Hid (∀ r, f r ≤ T) ∧ T + gk ≤ 712 ∧ Hid (q.length + 9 * unseen C (fun r => decide (1 ≤ f r)) ≤ gk))
      case atStart => exact ⟨startI C n n, fun _ => 0, 0, hq0, hb0, hmap0, HS, fun _ => Nat.le_refl _, by omega, HM0⟩
      case round =>
        obtain ⟨q, f, T, hq, hbel, hmap, hinv, hfT, hTk, hmeas⟩ := hrel
        obtain ⟨wo, rfl⟩ : ∃ x, x = wr := ⟨_, rfl⟩
        have hq00 := hq
        obtain ⟨xss, ho, hxl, hxs⟩ := hq
        obtain ⟨Aq, cq, rfl⟩ := ho.form
        cases q with
        | nil =>
          have hx0 : xss.length = 0 := hxl
          rw [hx0]
          have HF := Lib.hid (FindR.none_ HC.out hinv.out)
          clear hxl hxs ho hx0 hmap hq0 hmap0
          go_wp2
          go_ret2
          exact ⟨none, 0, 0, none, 0, 0, [], [], rfl, HF.out, by simp, by simp, Own.nil _ _ _, Own.nil _ _ _, hbel⟩
        | cons s q =>
          obtain ⟨vs, xt, rfl⟩ : ∃ vs xt, xss = vs :: xt := by
            cases xss with
            | nil => simp at hxl
            | cons v t => exact ⟨v, t, rfl⟩
          obtain ⟨vs', e, hsv⟩ := hxs 0 s rfl
          injection e with e; subst e
          obtain ⟨Ar, nr, cr, va, vc, rfl, hrr, hrc, hoa, hob⟩ := hsv
          obtain ⟨ad, rfl, hsp, hnl, hcl, htail⟩ := ho.tail
          obtain ⟨_, e1, had1, had2, _, hel⟩ := ho.at_ (i := 0) rfl
          injection e1 with e1
          subst e1
          obtain ⟨gb, off, sp⟩ := ad
          obtain rfl : sp = none := hsp
          have e0 := hel 0 _ rfl
          have e1 := hel 1 _ rfl
          have e2 := hel 2 _ rfl
          simp only [Nat.zero_mul, Nat.add_zero, Nat.zero_add] at e0 e1 e2
          generalize hxn : ((.slice Ar nr cr :: [va, vc] : List Value) :: xt).length = nq at *
          have i0 : (0 : Int) < (nq : Int) := by rw [← hxn]; simp
          have i00 : (0 : Int) ≤ (nq : Int) := by omega
          --PART3
          have HQ0 := Lib.hid hq00
          clear hq00
          obtain ⟨Aa, ca, rfl⟩ := hoa.form
          obtain ⟨Ab, cb, rfl⟩ := hob.form
          have hna : (vn .i64 s.a).length = s.a.length := by simp
          have hnb : (vn .i64 s.b).length = s.b.length := by simp
          simp only [hna, hnb] at hoa hob e1 e2 hxn ho hxs
          have hpath := hinv.out.path s (List.mem_cons_self ..)
          rw [HLEN.out] at hpath
          have hpa : s.a.length ≤ 80 := by omega
          have hpb : s.b.length ≤ 80 := by omega
          clear hpath hna hnb
          generalize hnA : s.a.length = na at *
          generalize hnB : s.b.length = nb at *
          have hrl := hrr.bool_len
          have hnr : nr ≤ 8 := by
            have hok := (hinv.out.ok s (List.mem_cons_self ..)).ur.suf H8.out
            obtain ⟨v, hv, k, hk, e⟩ := mem_suf.1 hok
            have h1 := H8.out v hv
            rw [← hrl, e, List.length_drop]; omega
          have hsz := hbel.size
          have hbx := BoxV.new wo [.slice Ar nr cr, .slice Aa na ca, .slice Ab nb cb] 77
          have hbm : bm < wo.heap.size := hmap.lt
          have hba : Below wo.heap.size wo (wo.alloc (.cells #[.slice Ar nr cr, .slice Aa na ca, .slice Ab nb cb] 77)) := (Below.refl _ wo).alloc (Nat.le_refl _) _
          by_cases hr0 : nr = 0
          · have hrest : s.rest = [] := List.eq_nil_of_length_eq_zero (hrl.trans hr0)
            subst hr0
            have HF := Lib.hid (FindR.hit hinv.out hrest)
            have HOA := Lib.hid (hoa.alloc (.cells #[.slice Ar 0 cr, .slice Aa na ca, .slice Ab nb cb] 77))
            have HOB := Lib.hid (hob.alloc (.cells #[.slice Ar 0 cr, .slice Aa na ca, .slice Ab nb cb] 77))
            have HBE := Lib.hid (hbel.alloc hsz (.cells #[.slice Ar 0 cr, .slice Aa na ca, .slice Ab nb cb] 77))
            clear hoa hob hba hbx hmap hxl hxs ho htail hrest hinv hmeas hfT hmap0 hq0
            go_wp2
            go_quiet (fail)
            go_wp2
            go_ret2
            exact ⟨_, _, _, _, _, _, s.a, s.b, rfl, HF.out, by omega, by omega, HOA.out.drewN _, HOB.out.drewN _, below_drewN HBE.out _⟩
          · have hb0 : ((nr : Int) == 0) = false := by simp; omega
            have HNE : Hid (s.rest ≠ []) := by
              unfold Hid; intro e
              rw [e] at hrl; exact hr0 hrl.symm
            obtain ⟨adr, rfl⟩ := hrr.addr (by omega)
            have HRR : Hid (Reads w w.heap.size (some adr) nr (vb s.rest)) := hrr.keep fun p hp => (hbel.cell hp).symm
            have HL0 : Hid (L4 w (wo.alloc (.cells #[.slice (some adr) nr cr, .slice Aa na ca, .slice Ab nb cb] 77)) w.heap.size wo.heap.size bm C s q f T (some adr) nr cr Aa na ca Ab nb cb (.slice (some ⟨gb, off, none⟩) nq cq) 0) := by
              refine ⟨?_, fun g hg => ?_, hbel.trans (hba.mono hsz), hbx, hmap.keep (hba.block _ hbm), hoa.alloc _, hob.alloc _, Nat.le_trans hsz hba.size⟩
              · rw [pushS, List.append_nil]
                exact HQ0.out.below ne_TI hsz hba
              · have := (HQ0.out.lt g hg).2; omega
            obtain ⟨v, hv⟩ : ∃ v, f s.rest = v := ⟨_, rfl⟩
            have HV := Lib.hid hv
            have hvT : v ≤ T := by rw [← hv]; exact hfT.out s.rest
            have hr64 : s.rest.length ≤ 64 := by omega
            have HPU := Lib.hid (pushS_len C s)
            have HROOM := Lib.hid hinv.out.room
            have HNQ : Hid (nq = xt.length + 1) := by unfold Hid; rw [← hxn]; rfl
            have HXTL : Hid (xt.length = q.length) := by unfold Hid; simp only [List.length_cons] at hxl hxn; omega
            have HL9 : Hid (s.rest.length ≤ 64) := hr64
            have ck := unique_key (some adr) nr cr s.rest _ (HRR.out.below HL0.out.bel) HL0.out.lo (by omega)
            have x0 := HL0.out.box.cell (j := 0) rfl
            have hvI : (v : Int) + 1 ≤ 1000 := by omega
            have hv0 : (0 : Int) ≤ (v : Int) := by omega
            clear hoa hob hba hbx hmap hxl hxs ho htail hmap0 hq0 hv hrr hr64 hb0 HQ0
            by_cases hvp : 1 ≤ v
            · have hgt : (1 : Int) < (v : Int) + 1 := by omega
              have HSN : Hid (UInv C (fun x => decide (1 ≤ (if x = s.rest then v + 1 else f x))) q ∧ q.length + 9 * unseen C (fun x => decide (1 ≤ (if x = s.rest then v + 1 else f x))) ≤ gk - 1 ∧ 1 ≤ gk) := by
                have e : (fun x => decide (1 ≤ (if x = s.rest then v + 1 else f x))) = fun x => decide (1 ≤ f x) := seen_skip HV.out hvp
                unfold Hid
                rw [e]
                have h1 := hmeas.out
                simp only [List.length_cons] at h1
                exact ⟨hinv.out.skip (by rw [HV.out]; simpa using hvp), by omega, by omega⟩
              have HFT : Hid (∀ r, (if r = s.rest then v + 1 else f r) ≤ T + 1) := fun r => by
                split
                · omega
                · have := hfT.out r; omega
              clear hinv hmeas hfT
              go_wp2_with (first
                | (go_at_call 45; refine ck.mono ?_; clear ck; rintro e w7 ⟨rfl, hb7⟩; have hL7 := HL0.out.below hb7; have hlk := hL7.map.look (t := 78) Try.underlying78 Try.underlying9 Try.underlying3 (Try.zeroValue3 _) s.rest HL9.out; rw [HV.out] at hlk; obtain ⟨w8, hput, hmap8, hg8⟩ := hL7.map.put (t := 78) Try.underlying78 Try.underlying9 Try.underlying3 (by unfold maxLen; omega) s.rest HL9.out (v + 1) (by omega); have hput := hput; rw [natP1] at hput; have hL8 := hL7.mapput hmap8 hg8 hszb; have x8 := hL8.box.cell (j := 0) rfl; have ck2 := unique_key (some adr) nr cr s.rest w8 (HRR.out.below hL8.bel) hL8.lo (by omega); have x7 := hL7.box.cell (j := 0) rfl; have HG8 := Lib.hid hg8; clear hg8 hmap8)
                | (go_at_call 45; refine ck2.mono ?_; clear ck2; rintro e w9 ⟨rfl, hb9⟩; have hL9 := hL8.below hb9; have hlk9 := hL9.map.look (t := 78) Try.underlying78 Try.underlying9 Try.underlying3 (Try.zeroValue3 _) s.rest HL9.out; simp only [if_pos, natP1] at hlk9))
              all_goals
                have hq0T := hL9.qr.tail
                obtain ⟨gb', off', e', _, _, hqt⟩ := hq0T
                injection e' with e'
                injection e' with e1' e2'
                subst e1' e2'
                rw [pushS, List.append_nil, ← HXTL.out] at hqt
                have hq1 : cq = 1 → QR 77 3 w9 w.heap.size (.slice (some ⟨gb, off, none⟩) xt.length 0) q := fun e => by subst e; exact hqt
                have hq2 : ¬ cq = 1 → QR 77 3 w9 w.heap.size (.slice (some ⟨gb, off + 3, none⟩) xt.length (cq - 1)) q := fun e => by rw [if_neg e] at hqt; exact hqt
                have hbel9 := hL9.bel
                have hmap9 := hL9.map
                clear hqt hlk9 hlk hput hL8 hL9 hL7
                go_roundg (gk - 1)
                case measure => have := HSN.out.2.2; omega
                case rel => exact ⟨q, _, T + 1, by first | exact hq2 (by assumption) | exact hq1 (by assumption), hbel9, hmap9, HSN.out.1, HFT.out, by have := HSN.out.2.2; omega, HSN.out.2.1⟩
            · have hv00 : v = 0 := by omega
              have hgt : ¬ (1 : Int) < (v : Int) + 1 := by omega
              have HSN : Hid (UInv C (fun x => decide (1 ≤ (if x = s.rest then v + 1 else f x))) (q ++ pushS C s n) ∧ (q ++ pushS C s n).length + 9 * unseen C (fun x => decide (1 ≤ (if x = s.rest then v + 1 else f x))) ≤ gk - 1 ∧ 1 ≤ gk) := by
                have e : (fun x => decide (1 ≤ (if x = s.rest then v + 1 else f x))) = fun x => decide (x = s.rest) || decide (1 ≤ f x) := by rw [hv00]; exact seen_next
                unfold Hid
                rw [e]
                have hs0 : (fun x => decide (1 ≤ f x)) s.rest = false := by simp [HV.out, hv00]
                have h1 := hmeas.out
                have h2 := unseen_less (seen := fun x => decide (1 ≤ f x)) ((hinv.out.ok s (List.mem_cons_self ..)).ur.suf H8.out) hs0
                have h3 := HPU.out n
                have h4 := hinv.out.next H8.out (by rw [HLEN.out]; exact hn) hs0 HNE.out
                rw [HLEN.out] at h4
                simp only [List.length_cons] at h1
                refine ⟨h4, ?_, by omega⟩
                rw [List.length_append]
                omega
              have HFT : Hid (∀ r, (if r = s.rest then v + 1 else f r) ≤ T + 1) := fun r => by
                split
                · omega
                · have := hfT.out r; omega
              have HQL : Hid (∀ k, k ≤ n → (s :: (q ++ pushS C s k)).length ≤ 1000) := fun k hk => by
                have h1 := HROOM.out
                have h3 := HPU.out k
                rw [HLEN.out] at h1
                simp only [List.length_cons, List.length_append] at h1 ⊢
                omega
              clear hinv hmeas hfT hvp hv00
              go_wp2_with (first
                | (go_at_call 45; refine ck.mono ?_; clear ck; rintro e w7 ⟨rfl, hb7⟩; have hL7 := HL0.out.below hb7; have hlk := hL7.map.look (t := 78) Try.underlying78 Try.underlying9 Try.underlying3 (Try.zeroValue3 _) s.rest HL9.out; rw [HV.out] at hlk; obtain ⟨w8, hput, hmap8, hg8⟩ := hL7.map.put (t := 78) Try.underlying78 Try.underlying9 Try.underlying3 (by unfold maxLen; omega) s.rest HL9.out (v + 1) (by omega); have hput := hput; rw [natP1] at hput; have hL8 := hL7.mapput hmap8 hg8 hszb; have x8 := hL8.box.cell (j := 0) rfl; have ck2 := unique_key (some adr) nr cr s.rest w8 (HRR.out.below hL8.bel) hL8.lo (by omega); have x7 := hL7.box.cell (j := 0) rfl; have HG8 := Lib.hid hg8; clear hg8 hmap8)
                | (go_at_call 45; refine ck2.mono ?_; clear ck2; rintro e w9 ⟨rfl, hb9⟩; have hL9 := hL8.below hb9; have hlk9 := hL9.map.look (t := 78) Try.underlying78 Try.underlying9 Try.underlying3 (Try.zeroValue3 _) s.rest HL9.out; simp only [if_pos, natP1] at hlk9))
              clear hlk9 hlk hput hL8 hL7 x0 x7 x8
              obtain ⟨f', HL9', HSN', HFT'⟩ : ∃ f', L4 w w9 w.heap.size wo.heap.size bm C s q f' (T + 1) (some adr) nr cr Aa na ca Ab nb cb (.slice (some ⟨gb, off, none⟩) nq cq) 0 ∧ Hid (UInv C (fun x => decide (1 ≤ f' x)) (q ++ pushS C s n) ∧ (q ++ pushS C s n).length + 9 * unseen C (fun x => decide (1 ≤ f' x)) ≤ gk - 1 ∧ 1 ≤ gk) ∧ Hid (∀ r, f' r ≤ T + 1) := ⟨_, hL9, HSN.out, HFT.out⟩
              clear HSN HFT hL9 HL0
              go_loopw [88, 5, 12, 13, 14, 99, 116] (fun kv qv _ _ _ _ _ wi => ∃ k : Nat, k ≤ n ∧ kv = .int .i64 k ∧ L4 w wi w.heap.size wo.heap.size bm C s q f' (T + 1) (some adr) nr cr Aa na ca Ab nb cb qv k) (fun kv _ _ _ _ _ _ _ => n - (intOf kv).toNat)
              case atStart => exact ⟨0, by omega, rfl, by rw [← HNQ.out]; exact HL9'⟩
              case round =>
                obtain ⟨k, hk, rfl, hL⟩ := hrel
                clear HL9'
                by_cases hlt4 : k < n
                · obtain ⟨ad, x, A1, n1, c1, e, hx, hc1, hr1, hm1, hl1, hk1⟩ := (h.below hL.bel).row hlt4
                  subst e
                  have HX := Lib.hid hx
                  have HR1 := Lib.hid hr1
                  have hn18 : n1 ≤ 8 := by rw [← hl1]; exact H8.out _ (mem_at hx)
                  have hn10 : 0 < n1 := by
                    rcases Nat.eq_zero_or_pos n1 with h0 | h0
                    · exact absurd (mem_at hx) (by rw [List.eq_nil_of_length_eq_zero (hl1.trans h0)]; exact HC.out)
                    · exact h0
                  obtain ⟨ad1, rfl⟩ := hr1.addr hn10
                  have HRW : Hid (Reads w w.heap.size (some ad1) n1 (vb x)) := hr1.keep fun p hp => (hL.bel.cell hp).symm
                  have XL : Hid (x.length = n1) := hl1
                  have RL : Hid (s.rest.length = nr) := hrl
                  have hnr0 : 0 < nr := by omega
                  have HSZ : Hid (w.heap.size ≤ wr.heap.size) := hL.lo
                  have cc := clone_ints Ab nb cb (vn .i64 s.b) wr hL.ob.reads (one_vnU s.b) (by omega)
                  have z2 := hL.box.cell (j := 2) rfl
                  have HVL : Hid ((vn .i64 s.b).length ≤ 80) := by unfold Hid; simp; omega
                  have VNS : Hid (vn .i64 s.b ++ [Value.int .i64 (k : Int)] = vn .i64 (s.b ++ [k])) := by simp [Hid, vn]
                  have k0 : (0 : Int) ≤ (k : Int) := by omega
                  have k1 : (k : Int) < (n : Int) := by omega
                  have HL := Lib.hid hL
                  have HP0 : Hid (pushS C s (k + 1) = pushS C s k ++ stepS x s k) := by unfold Hid; rw [pushS, getD_at hx]
                  clear hx hl1 hm1 hr1 hL
                  cases hb1 : begB x s.rest
                  · have HB1 := Lib.hid hb1
                    cases hb2 : begB s.rest x
                    · have HB2 := Lib.hid hb2
                      have HP : Hid (pushS C s (k + 1) = pushS C s k) := by unfold Hid; rw [HP0.out]; unfold stepS; rw [hb1, hb2]; simp
                      clear hb1 hb2
                      go_wp2_with (first
                                          | (go_at_call 46; refine cc.mono ?_; clear cc; rintro e w5 ⟨A5, n5, c5, rfl, ho5, hb5⟩)
                                          | (at_builtin; refine app1 el_clone_ints rfl _ _ rfl rfl ho5 _ _ rfl rfl (by have := HVL.out; unfold maxLen; omega) (by have := HVL.out; omega) hb5.size ?_; intro v6 w6 ho6 hb6 hg6 hat6; have hB6 := hb5.trans hb6; have hL6 := HL.out.below hB6; have y0 := hL6.box.cell (j := 0) rfl; have cb1 := prefix_Begins (some ad1) (some adr) n1 nr c1 cr x s.rest w6 (HR1.out.below (hB6.mono HSZ.out)) (HRR.out.below hL6.bel) (by unfold maxLen; omega) (by unfold maxLen; omega) hrc; rw [HB1.out] at cb1; have HL6 := Lib.hid hL6; have HO6 := Lib.hid ho6; have HB6 := Lib.hid hB6; clear hg6 hat6 hb6 hB6 hL6 ho6 ho5 hb5)
                                          | (go_at_call 44; refine cb1.mono ?_; clear cb1; rintro e w7 ⟨rfl, m7, rfl⟩; have cb2 := prefix_Begins (some adr) (some ad1) nr n1 cr c1 s.rest x (w6.drewN m7) ((HRR.out.below HL6.out.bel).drewN m7) ((HR1.out.below (HB6.out.mono HSZ.out)).drewN m7) (by unfold maxLen; omega) (by unfold maxLen; omega) hk1; rw [HB2.out] at cb2)
                                          | (go_at_call 44; refine cb2.mono ?_; clear cb2; rintro e w7 ⟨rfl, m8, rfl⟩))
                      have hL8 : L4 w (w6.drewN (m7 + m8)) w.heap.size wo.heap.size bm C s q f' (T + 1) (some adr) nr cr Aa na ca Ab nb cb u5 (k + 1) := by
                        have h1 := HL6.out.below (below_drewN (Below.refl _ w6) (m7 + m8))
                        exact { h1 with qr := by rw [HP.out]; exact h1.qr }
                      clear HL6 HO6 HB6 y0
                      go_roundw
                      case rel => exact ⟨k + 1, by omega, by go_num, by first | exact hL8 | (rw [World.drewN_drewN]; exact hL8)⟩
                      case measure => simp only [intOf]; omega
                    · have HB2 := Lib.hid hb2
                      have HP : Hid (pushS C s (k + 1) = pushS C s k ++ [⟨x.drop s.rest.length, s.b ++ [k], s.a⟩]) := by unfold Hid; rw [HP0.out]; unfold stepS; rw [hb1, hb2]; simp
                      have hle2 : nr ≤ n1 := by
                        have := congrArg List.length (begB_true hb2)
                        rw [List.length_append, RL.out, XL.out] at this; omega
                      have l0 : (0 : Int) ≤ (nr : Int) := by omega
                      have l1 : (nr : Int) ≤ (n1 : Int) := by omega
                      clear hb1 hb2
                      go_wp2_with (first
                                          | (go_at_call 46; refine cc.mono ?_; clear cc; rintro e w5 ⟨A5, n5, c5, rfl, ho5, hb5⟩)
                                          | (at_builtin; refine app1 el_clone_ints rfl _ _ rfl rfl ho5 _ _ rfl rfl (by have := HVL.out; unfold maxLen; omega) (by have := HVL.out; omega) hb5.size ?_; intro v6 w6 ho6 hb6 hg6 hat6; have hB6 := hb5.trans hb6; have hL6 := HL.out.below hB6; have y0 := hL6.box.cell (j := 0) rfl; have cb1 := prefix_Begins (some ad1) (some adr) n1 nr c1 cr x s.rest w6 (HR1.out.below (hB6.mono HSZ.out)) (HRR.out.below hL6.bel) (by unfold maxLen; omega) (by unfold maxLen; omega) hrc; rw [HB1.out] at cb1; have HL6 := Lib.hid hL6; have HO6 := Lib.hid ho6; have HB6 := Lib.hid hB6; clear hg6 hat6 hb6 hB6 hL6 ho6 ho5 hb5)
                                          | (go_at_call 44; refine cb1.mono ?_; clear cb1; rintro e w7 ⟨rfl, m7, rfl⟩; have cb2 := prefix_Begins (some adr) (some ad1) nr n1 cr c1 s.rest x (w6.drewN m7) ((HRR.out.below HL6.out.bel).drewN m7) ((HR1.out.below (HB6.out.mono HSZ.out)).drewN m7) (by unfold maxLen; omega) (by unfold maxLen; omega) hk1; rw [HB2.out] at cb2)
                                          | (go_at_call 44; refine cb2.mono ?_; clear cb2; rintro e w7 ⟨rfl, m8, rfl⟩))
                      obtain ⟨w8, hw8⟩ : ∃ z, z = w6.drewN (m7 + m8) := ⟨_, rfl⟩
                      rw [← hw8]
                      have hL8 : L4 w w8 w.heap.size wo.heap.size bm C s q f' (T + 1) (some adr) nr cr Aa na ca Ab nb cb u5 k := by rw [hw8]; exact HL6.out.below (below_drewN (Below.refl _ w6) _)
                      have hn8 : Own w8 w.heap.size 3 v6 (vn .i64 (s.b ++ [k])) := by
                        have := Own.low HO6.out HSZ.out
                        rw [VNS.out] at this
                        rw [hw8]; exact this.drewN _
                      clear hw8 HO6 HB6 HL6 y0
                      obtain ⟨A6, n6, c6, rfl⟩ : ∃ A n c, v6 = Value.slice A n c := (by obtain ⟨A, c, e⟩ := hn8.form; exact ⟨A, _, c, e⟩)
                      obtain ⟨xss, ho, hxl, hxs⟩ := hL8.qr
                      have hxl8 : xss.length ≤ 1000 := by rw [hxl]; exact HQL.out k hk
                      have e0 := hL8.box.cell (j := 0) rfl
                      have e1 := hL8.box.cell (j := 1) rfl
                      have hsz8 : w.heap.size ≤ w8.heap.size := hL8.lo
                      have HQ := Lib.hid (ho.alloc (.cells #[.slice (if c1 = nr then some ad1 else some (ad1.add nr)) (n1 - nr) (c1 - nr), .slice A6 n6 c6, .slice Aa na ca] 77)).drew
                      have hnew : ∀ j u, [.slice (if c1 = nr then some ad1 else some (ad1.add nr)) (n1 - nr) (c1 - nr), .slice A6 n6 c6, .slice Aa na ca][j]? = some u → (w8.alloc (.cells #[.slice (if c1 = nr then some ad1 else some (ad1.add nr)) (n1 - nr) (c1 - nr), .slice A6 n6 c6, .slice Aa na ca] 77)).drew.cell? ((⟨w8.heap.size, 0, none⟩ : Addr).add j) = some u := fun j u hu => by
                        rw [add_row]; exact (BoxV.new w8 [.slice (if c1 = nr then some ad1 else some (ad1.add nr)) (n1 - nr) (c1 - nr), .slice A6 n6 c6, .slice Aa na ca] 77).cell hu
                      have HNEW := Lib.hid hnew
                      have HL8 := Lib.hid hL8
                      have HN8 := Lib.hid hn8
                      have HXL := Lib.hid hxl
                      have HXS := Lib.hid hxs
                      clear hL8 hn8 hxl hxs ho hnew
                      go_region_law (refine step_appQ el_us rfl (.tmp 121) (.tmp 131) rfl (by first | rfl | (go_simp; done) | (go_simp; rfl)) HQ.out ⟨w8.heap.size, 0, none⟩ 1 [.slice (if c1 = nr then some ad1 else some (ad1.add nr)) (n1 - nr) (c1 - nr), .slice A6 n6 c6, .slice Aa na ca] (by first | rfl | (go_simp; done) | (go_simp; rfl)) rfl HNEW.out (by intro u hu; simp only [List.mem_cons, List.not_mem_nil, or_false] at hu; rcases hu with rfl | rfl | rfl <;> rfl) (by unfold maxLen; omega) (by omega) (Nat.le_trans hsz8 (((Below.refl w8.heap.size w8).alloc (Nat.le_refl _) _).drew).size) ?_; intro v9 w9 ho9 hg9 hat9)
                      all_goals
                        have hL9 := HL8.out.below (((Below.refl w8.heap.size w8).alloc (Nat.le_refl _) (.cells #[.slice (if c1 = nr then some ad1 else some (ad1.add nr)) (n1 - nr) (c1 - nr), .slice A6 n6 c6, .slice Aa na ca] 77)).drew)
                        have hkt := HQ.out.ktGrown hg9
                        have hbg := hL9.bel.grown hg9 hL9.lo (fun g e => (HQ.out.lt g e).1)
                        have hus : USV 3 w9 w.heap.size ⟨x.drop s.rest.length, s.b ++ [k], s.a⟩ [.slice (if c1 = nr then some ad1 else some (ad1.add nr)) (n1 - nr) (c1 - nr), .slice A6 n6 c6, .slice Aa na ca] := ⟨_, _, _, _, _, rfl, by rw [RL.out]; exact reads_from (HRW.out.below hbg) hn10 hle2 hk1, by omega, ((HN8.out.alloc _).drew).kt ne_TI hkt, hL9.oa.kt ne_TI hkt⟩
                        have hL10 := hL9.push HQ.out HXL.out (fun i t ht => by obtain ⟨vs, e1, e2⟩ := HXS.out i t ht; exact ⟨vs, e1, e2.kt ne_TI (((Below.refl w.heap.size w8).alloc hsz8 _).drew) (((Kt.refl w8).alloc _).drew)⟩) hg9 hat9 ho9 hus HP
                        clear hus hkt hbg hL9 hg9 hat9 ho9 HL8 HN8 HXL HXS HQ HNEW e0 e1 HL
                        go_wp2
                        go_roundw
                        case rel => exact ⟨k + 1, by omega, by go_num, hL10⟩
                        case measure => simp only [intOf]; omega
                  · have HB1 := Lib.hid hb1
                    have HP : Hid (pushS C s (k + 1) = pushS C s k ++ [⟨s.rest.drop x.length, s.a, s.b ++ [k]⟩]) := by unfold Hid; rw [HP0.out]; unfold stepS; rw [hb1]; simp
                    have hle1 : n1 ≤ nr := by
                      have := congrArg List.length (begB_true hb1)
                      rw [List.length_append, RL.out, XL.out] at this; omega
                    have l0 : (0 : Int) ≤ (n1 : Int) := by omega
                    have l1 : (n1 : Int) ≤ (nr : Int) := by omega
                    clear hb1
                    go_wp2_with (first
                                        | (go_at_call 46; refine cc.mono ?_; clear cc; rintro e w5 ⟨A5, n5, c5, rfl, ho5, hb5⟩)
                                        | (at_builtin; refine app1 el_clone_ints rfl _ _ rfl rfl ho5 _ _ rfl rfl (by have := HVL.out; unfold maxLen; omega) (by have := HVL.out; omega) hb5.size ?_; intro v6 w6 ho6 hb6 hg6 hat6; have hB6 := hb5.trans hb6; have hL6 := HL.out.below hB6; have y0 := hL6.box.cell (j := 0) rfl; have cb1 := prefix_Begins (some ad1) (some adr) n1 nr c1 cr x s.rest w6 (HR1.out.below (hB6.mono HSZ.out)) (HRR.out.below hL6.bel) (by unfold maxLen; omega) (by unfold maxLen; omega) hrc; rw [HB1.out] at cb1; have HL6 := Lib.hid hL6; have HO6 := Lib.hid ho6; have HB6 := Lib.hid hB6; clear hg6 hat6 hb6 hB6 hL6 ho6 ho5 hb5)
                                        | (go_at_call 44; refine cb1.mono ?_; clear cb1; rintro e w7 ⟨rfl, m7, rfl⟩; skip))
                    obtain ⟨w8, hw8⟩ : ∃ z, z = w6.drewN (m7) := ⟨_, rfl⟩
                    rw [← hw8]
                    have hL8 : L4 w w8 w.heap.size wo.heap.size bm C s q f' (T + 1) (some adr) nr cr Aa na ca Ab nb cb u5 k := by rw [hw8]; exact HL6.out.below (below_drewN (Below.refl _ w6) _)
                    have hn8 : Own w8 w.heap.size 3 v6 (vn .i64 (s.b ++ [k])) := by
                      have := Own.low HO6.out HSZ.out
                      rw [VNS.out] at this
                      rw [hw8]; exact this.drewN _
                    clear hw8 HO6 HB6 HL6 y0
                    obtain ⟨A6, n6, c6, rfl⟩ : ∃ A n c, v6 = Value.slice A n c := (by obtain ⟨A, c, e⟩ := hn8.form; exact ⟨A, _, c, e⟩)
                    obtain ⟨xss, ho, hxl, hxs⟩ := hL8.qr
                    have hxl8 : xss.length ≤ 1000 := by rw [hxl]; exact HQL.out k hk
                    have e0 := hL8.box.cell (j := 0) rfl
                    have e1 := hL8.box.cell (j := 1) rfl
                    have hsz8 : w.heap.size ≤ w8.heap.size := hL8.lo
                    have HQ := Lib.hid (ho.alloc (.cells #[.slice (if cr = n1 then some adr else some (adr.add n1)) (nr - n1) (cr - n1), .slice Aa na ca, .slice A6 n6 c6] 77)).drew
                    have hnew : ∀ j u, [.slice (if cr = n1 then some adr else some (adr.add n1)) (nr - n1) (cr - n1), .slice Aa na ca, .slice A6 n6 c6][j]? = some u → (w8.alloc (.cells #[.slice (if cr = n1 then some adr else some (adr.add n1)) (nr - n1) (cr - n1), .slice Aa na ca, .slice A6 n6 c6] 77)).drew.cell? ((⟨w8.heap.size, 0, none⟩ : Addr).add j) = some u := fun j u hu => by
                      rw [add_row]; exact (BoxV.new w8 [.slice (if cr = n1 then some adr else some (adr.add n1)) (nr - n1) (cr - n1), .slice Aa na ca, .slice A6 n6 c6] 77).cell hu
                    have HNEW := Lib.hid hnew
                    have HL8 := Lib.hid hL8
                    have HN8 := Lib.hid hn8
                    have HXL := Lib.hid hxl
                    have HXS := Lib.hid hxs
                    clear hL8 hn8 hxl hxs ho hnew
                    go_region_law (refine step_appQ el_us rfl (.tmp 104) (.tmp 114) rfl (by first | rfl | (go_simp; done) | (go_simp; rfl)) HQ.out ⟨w8.heap.size, 0, none⟩ 1 [.slice (if cr = n1 then some adr else some (adr.add n1)) (nr - n1) (cr - n1), .slice Aa na ca, .slice A6 n6 c6] (by first | rfl | (go_simp; done) | (go_simp; rfl)) rfl HNEW.out (by intro u hu; simp only [List.mem_cons, List.not_mem_nil, or_false] at hu; rcases hu with rfl | rfl | rfl <;> rfl) (by unfold maxLen; omega) (by omega) (Nat.le_trans hsz8 (((Below.refl w8.heap.size w8).alloc (Nat.le_refl _) _).drew).size) ?_; intro v9 w9 ho9 hg9 hat9)
                    all_goals
                      have hL9 := HL8.out.below (((Below.refl w8.heap.size w8).alloc (Nat.le_refl _) (.cells #[.slice (if cr = n1 then some adr else some (adr.add n1)) (nr - n1) (cr - n1), .slice Aa na ca, .slice A6 n6 c6] 77)).drew)
                      have hkt := HQ.out.ktGrown hg9
                      have hbg := hL9.bel.grown hg9 hL9.lo (fun g e => (HQ.out.lt g e).1)
                      have hus : USV 3 w9 w.heap.size ⟨s.rest.drop x.length, s.a, s.b ++ [k]⟩ [.slice (if cr = n1 then some adr else some (adr.add n1)) (nr - n1) (cr - n1), .slice Aa na ca, .slice A6 n6 c6] := ⟨_, _, _, _, _, rfl, by rw [XL.out]; exact reads_from (HRR.out.below hbg) hnr0 hle1 hrc, by omega, hL9.oa.kt ne_TI hkt, ((HN8.out.alloc _).drew).kt ne_TI hkt⟩
                      have hL10 := hL9.push HQ.out HXL.out (fun i t ht => by obtain ⟨vs, e1, e2⟩ := HXS.out i t ht; exact ⟨vs, e1, e2.kt ne_TI (((Below.refl w.heap.size w8).alloc hsz8 _).drew) (((Kt.refl w8).alloc _).drew)⟩) hg9 hat9 ho9 hus HP
                      clear hus hkt hbg hL9 hg9 hat9 ho9 HL8 HN8 HXL HXS HQ HNEW e0 e1 HL
                      go_wp2
                      go_roundw
                      case rel => exact ⟨k + 1, by omega, by go_num, hL10⟩
                      case measure => simp only [intOf]; omega
                · obtain rfl : n = k := by omega
                  have k1 : ¬ (n : Int) < (n : Int) := by omega
                  obtain ⟨Aq4, nq4, cq4, hqe⟩ : ∃ A m c, u5 = Value.slice A m c := by obtain ⟨xss, ho, _⟩ := hL.qr; obtain ⟨A, c, e⟩ := ho.form; exact ⟨A, _, c, e⟩
                  subst hqe
                  obtain ⟨gb4, off4, rfl, hn4, hc4, hqt⟩ := hL.qr.tail
                  have hq1 : cq4 = 1 → QR 77 3 wr w.heap.size (.slice (some ⟨gb4, off4, none⟩) (nq4 - 1) 0) (q ++ pushS C s n) := fun e => by
                    subst e
                    rw [if_pos rfl, show (q ++ pushS C s n).length = nq4 - 1 by omega] at hqt; exact hqt
                  have hq2 : ¬ cq4 = 1 → QR 77 3 wr w.heap.size (.slice (some ⟨gb4, off4 + 3, none⟩) (nq4 - 1) (cq4 - 1)) (q ++ pushS C s n) := fun e => by
                    rw [if_neg e, show (q ++ pushS C s n).length = nq4 - 1 by omega] at hqt; exact hqt
                  have n1 : 1 ≤ nq4 := by omega
                  have n2 : (1 : Int) ≤ (nq4 : Int) := by omega
                  have hbel9 := hL.bel
                  have hmap9 := hL.map
                  clear hqt hL hn4
                  go_wp2
                  all_goals
                    go_roundg (gk - 1)
                    case measure => have := HSN'.out.2.2; omega
                    case rel => exact ⟨q ++ pushS C s n, f', T + 1, by first | exact hq2 (by assumption) | exact hq1 (by assumption), hbel9, hmap9, HSN'.out.1, HFT'.out, by have := HSN'.out.2.2; omega, HSN'.out.2.1⟩
end Go.Proofs.Ytpbffbhebdcpbaa

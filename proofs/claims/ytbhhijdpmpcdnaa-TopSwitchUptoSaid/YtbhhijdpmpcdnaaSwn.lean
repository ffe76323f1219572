/-
  TopSwitch: the walk.
-/
import Derived.Test.YtbhhijdpmpcdnaaSwm
import Derived.Test.YtbhhijdpmpcdnaaAppl
import Derived.Test.YtbhhijdpmpcdnaaPtw
import Derived.Test.YtbhhijdpmpcdnaaPty
set_option linter.unusedVariables false
namespace Go.Proofs.Ytbhhijdpmpcdnaa
open Go.RowKit

theorem sw_cells (block : Int) : ∀ x ∈ ([[.int .i64 10, .int .i64 0, .int .i64 0, .int .u8 0], [.int .i64 9, .int .i64 1, .int .i64 block, .int .u8 0]] : List (List Value)), x.length = 4 := by simp
theorem mo_cells (block : Int) (b : Nat) : ∀ x ∈ ([[.int .i64 1, .int .i64 0, .int .i64 block, .int .u8 (b : Int)], [.int .i64 9, .int .i64 1, .int .i64 block, .int .u8 0]] : List (List Value)), x.length = 4 := by simp
theorem sw_start (l : List StS) (block : Int) (more : List Nat) : ([] ++ l.map stC) ++ [[.int .i64 10, .int .i64 0, .int .i64 0, .int .u8 0], [.int .i64 9, .int .i64 1, .int .i64 block, .int .u8 0]] = (allS l block (more.take 0)).map stC := by
  simp [allS, swS, moreS, stC]
theorem sw_grow (l : List StS) (block : Int) {more : List Nat} {k b : Nat} (h : more[k]? = some b) : (allS l block (more.take k)).map stC ++ [[.int .i64 1, .int .i64 0, .int .i64 block, .int .u8 (b : Int)], [.int .i64 9, .int .i64 1, .int .i64 block, .int .u8 0]] = (allS l block (more.take (k + 1))).map stC := by
  rw [take_next h, allS_snoc]
  simp [moS, stC]
theorem sw_len (l : List StS) (block : Int) (more : List Nat) (k : Nat) (hk : k ≤ more.length) : ((allS l block (more.take k)).map stC).length = l.length + 2 + 2 * k := by
  rw [List.length_map, allS_len, List.length_take, Nat.min_eq_left hk]
set_option maxRecDepth 100000 in
set_option maxHeartbeats 16000000 in
theorem switch_walk (mode d : Int) (A : Option Addr) (n c : Nat) (l : List StS) (block : Int) (A2 : Option Addr) (m c2 : Nat) (more : List Nat) (w : World) (h : ReadsK w w.heap.size 4 A n (l.map stC)) (hl : ∀ x ∈ l, x.val < 256) (h2 : Reads w w.heap.size A2 m (vn .u8 more)) (hm : ∀ b ∈ more, b < 256) (hn : n ≤ 1048576) (hm2 : m ≤ 1048576) :
    Calls Try.prog 5 #[.int .i64 mode, .int .i64 d, .slice A n c, .int .i64 block, .slice A2 m c2] w (LawTrue w) := by
  have hln : l.length = n := by have := h.len; rwa [List.length_map] at this
  have hlm : more.length = m := h2.nat_len
  have HR := Lib.hid h
  have HR2 := Lib.hid h2
  have HL := Lib.hid hl
  have HM := Lib.hid hm
  have HLN := Lib.hid hln
  have HLM := Lib.hid hlm
  have HO0 : Hid (OwnK (w.alloc (.cells #[] 35)) w.heap.size 35 4 (.slice (some ⟨w.heap.size, 0, none⟩) 0 0) []) := OwnK.built0 w (Nat.le_refl _)
  have HS0 : Hid (ReadsK (w.alloc (.cells #[] 35)) w.heap.size 4 A n (l.map stC)) := h.alloc (Nat.le_refl _) _
  have HB0 : Hid (Below w.heap.size w (w.alloc (.cells #[] 35))) := (Below.refl _ _).alloc (Nat.le_refl _) _
  clear h h2 hl hm hln hlm
  go_enter Try.func5, Try.ntmps5
  go_wp2_with (first
      | (refine appNK el_stepP rfl (.tmp 27) (.tmp 28) rfl rfl HO0.out rfl HS0.out (by intro y hy; obtain ⟨x, _, rfl⟩ := List.mem_map.1 hy; intro u hu; simp only [stC, List.mem_cons, List.not_mem_nil, or_false] at hu; rcases hu with rfl | rfl | rfl | rfl <;> rfl) (by unfold maxLen; simp; omega) (by simp; omega) HB0.out.size ?_; intro v1 w1 ho1 hb1 hg1 hat1
         have HB1 := Lib.hid (HB0.out.trans hb1)
         have HO1 := Lib.hid (ho1.alloc (.cells #[.int .i64 10, .int .i64 0, .int .i64 0, .int .u8 0, .int .i64 9, .int .i64 1, .int .i64 block, .int .u8 0] 35))
         clear HO0 HS0 HB0 ho1 hb1 hg1 hat1)
      | (refine appNK el_stepP rfl (.tmp 29) (.tmp 33) rfl rfl HO1.out rfl (reads_layK w1 #[.int .i64 10, .int .i64 0, .int .i64 0, .int .u8 0, .int .i64 9, .int .i64 1, .int .i64 block, .int .u8 0] 35 [[.int .i64 10, .int .i64 0, .int .i64 0, .int .u8 0], [.int .i64 9, .int .i64 1, .int .i64 block, .int .u8 0]] (sw_cells block) rfl) (by intro y hy u hu; simp only [List.mem_cons, List.not_mem_nil, or_false] at hy; rcases hy with rfl | rfl <;> (simp only [List.mem_cons, List.not_mem_nil, or_false] at hu; rcases hu with rfl | rfl | rfl | rfl <;> rfl)) (by have := HLN.out; unfold maxLen; simp; omega) (by have := HLN.out; simp; omega) (by have := HB1.out.size; simp; omega) ?_; intro v2 w2 ho2 hb2 hg2 hat2
         have HO2 := Lib.hid ho2
         have HB2 := Lib.hid ((HB1.out.alloc HB1.out.size (.cells #[.int .i64 10, .int .i64 0, .int .i64 0, .int .u8 0, .int .i64 9, .int .i64 1, .int .i64 block, .int .u8 0] 35)).trans hb2)
         clear HO1 HB1 ho2 hb2 hg2 hat2))
  go_loopw [11, 37] (fun v iv wr => ∃ k : Nat, k ≤ m ∧ iv = .int .i64 (k : Int) ∧ OwnK wr w.heap.size 35 4 v ((allS l block (more.take k)).map stC) ∧ Below w.heap.size w wr) (fun _ iv _ => m - (intOf iv).toNat)
  case atStart =>
    refine ⟨0, Nat.zero_le _, rfl, ?_, HB2.out⟩
    rw [← sw_start]
    exact HO2.out
  case round =>
    obtain ⟨k, hk, rfl, hown, hbel⟩ := hrel
    obtain ⟨wo, rfl⟩ : ∃ x, x = wr := ⟨_, rfl⟩
    obtain ⟨ov, rfl⟩ : ∃ x, x = u11 := ⟨_, rfl⟩
    clear HO2 HB2
    by_cases hlt : k < m
    · obtain ⟨ad, b, rfl, hadb, hx, hc⟩ := (HR2.out.below hbel).nat_at hlt
      have i0 : (0 : Int) ≤ (k : Int) := by omega
      have i1 : (k : Int) < (m : Int) := by omega
      have hlen := sw_len l block more k (by have := HLM.out; omega)
      have HNX := Lib.hid (sw_grow l block hx)
      have HLEN := Lib.hid hlen
      have HO := Lib.hid (hown.alloc (.cells #[.int .i64 1, .int .i64 0, .int .i64 block, .int .u8 (b : Int), .int .i64 9, .int .i64 1, .int .i64 block, .int .u8 0] 35))
      have HB := Lib.hid hbel
      clear hx hlen hown hbel
      go_wp2_with (first
       | (refine appNK el_stepP rfl (.tmp 41) (.tmp 47) rfl rfl HO.out rfl (reads_layK wo #[.int .i64 1, .int .i64 0, .int .i64 block, .int .u8 (b : Int), .int .i64 9, .int .i64 1, .int .i64 block, .int .u8 0] 35 [[.int .i64 1, .int .i64 0, .int .i64 block, .int .u8 (b : Int)], [.int .i64 9, .int .i64 1, .int .i64 block, .int .u8 0]] (mo_cells block b) rfl) (by intro y hy u hu; simp only [List.mem_cons, List.not_mem_nil, or_false] at hy; rcases hy with rfl | rfl <;> (simp only [List.mem_cons, List.not_mem_nil, or_false] at hu; rcases hu with rfl | rfl | rfl | rfl <;> rfl)) (by have := HLEN.out; have := HLN.out; rw [HLEN.out]; unfold maxLen; simp; omega) (by have := HLN.out; rw [HLEN.out]; simp; omega) (by have := HB.out.size; simp; omega) ?_; intro v2 w2 ho2 hb2 hg2 hat2
          have HO2 := Lib.hid ho2
          have HB2 := Lib.hid ((HB.out.alloc HB.out.size (.cells #[.int .i64 1, .int .i64 0, .int .i64 block, .int .u8 (b : Int), .int .i64 9, .int .i64 1, .int .i64 block, .int .u8 0] 35)).trans hb2)
          clear HO HB ho2 hb2 hg2 hat2))
      go_roundw
      case rel => exact ⟨k + 1, by omega, by go_num, by rw [← HNX.out]; exact HO2.out, HB2.out⟩
      case measure => simp [intOf] <;> omega
    · obtain rfl : m = k := by omega
      rw [show more.take m = more by rw [← HLM.out]; exact List.take_length] at hown
      obtain ⟨N, hN⟩ : ∃ N, (allS l block more).length = N := ⟨_, rfl⟩
      obtain ⟨A1, c1, rfl⟩ : ∃ A c, ov = .slice A N c := by
        obtain ⟨A, c, e⟩ := hown.form
        exact ⟨A, c, by rw [e, List.length_map, hN]⟩
      have hN2 : N = n + 2 + 2 * m := by rw [← hN, allS_len, HLN.out, HLM.out]
      have HN := Lib.hid hN
      have HN2 := Lib.hid hN2
      clear hN hN2 hlt hk
      by_cases hd : 1 ≤ mode ∧ mode ≤ 3 ∧ 3 ≤ d ∧ d ≤ 6 ∧ N ≤ 100
      · obtain ⟨M, rfl⟩ := Int.eq_ofNat_of_zero_le (show 0 ≤ mode by omega)
        obtain ⟨D, rfl⟩ := Int.eq_ofNat_of_zero_le (show 0 ≤ d by omega)
        have h3 : 3 ≤ D := by omega
        have h6 : D ≤ 6 := by omega
        have hN100 : N ≤ 100 := by omega
        have hvals := allS_val HL.out block HM.out
        have c1' := pair_Play M D A1 N c1 (allS l block more) wo hown.reads hvals (by omega) (by omega) h3 h6 hN100
        have c2' := fun W => top_may (M : Int) (D : Int) A1 N c1 W true (by simp only [Hid, mayB, decide_eq_true_eq]; exact hd)
        have same := pair_same h3 h6 M (allS l block more) N
        have hmn := all_main (mode := M) (d := D) (block := block) HL.out HM.out (k := N) (by have := HN2.out; have := HLN.out; omega)
        have e1 : toldF M (playG (mvP D) M D startP (allS l block more) N) = (playG (mvB D) M D startB (allS l block more) N).told := by
          unfold toldF
          rw [same.main, hmn, if_neg (by omega), same.told]
        rw [e1, same.outs, same.main] at c1'
        obtain ⟨told, htold⟩ : ∃ q, (playG (mvB D) M D startB (allS l block more) N).told = q := ⟨_, rfl⟩
        obtain ⟨O, hO⟩ : ∃ q, (playG (mvB D) M D startB (allS l block more) N).outs = q := ⟨_, rfl⟩
        obtain ⟨mn, hmn2⟩ : ∃ q, (playG (mvB D) M D startB (allS l block more) N).main = q := ⟨_, rfl⟩
        rw [htold, hO, hmn2] at c1'
        have tm : ((mn : Int) != 1) = false := by rw [← hmn2, hmn]; rfl
        have t0 : ((N : Int) != (N : Int)) = false := by simp
        have HTOLD := Lib.hid htold
        have HOO := Lib.hid hO
        have HB := Lib.hid hbel
        have HD := Lib.hid hd
        clear hd hown hbel same hmn e1 htold hO hmn2 hvals
        by_cases hbk : block < 0 ∨ 24 ≤ block
        · have hbad := all_bad (mode := M) (d := D) (block := block) HL.out HM.out hbk
          rw [HN.out, HOO.out, HLN.out] at hbad
          have HBAD := Lib.hid hbad
          have n1 : (n : Int) + 1 < (N : Int) := by have := HN2.out; omega
          have n0 : (0 : Int) ≤ (n : Int) + 1 := by omega
          clear hbad
          by_cases hb0 : block < 0
          · clear hbk
            go_wp2_with (first
              | (go_at_call 7; refine c1'.mono ?_; clear c1'; rintro e w3 ⟨A3, kc, rfl, ho3, hb3⟩
                 have hbA : BoxV (w3.alloc (.cells #[.slice A3 N kc, .int .i64 (told : Int), .int .i64 (mn : Int)] 25)) w3.heap.size 25 [.slice A3 N kc, .int .i64 (told : Int), .int .i64 (mn : Int)] := BoxV.new w3 _ _
                 have p0 := hbA.cell (j := 0) rfl; have p1 := hbA.cell (j := 1) rfl; have p2 := hbA.cell (j := 2) rfl
                 obtain ⟨ad3, rfl, e0, e1⟩ := dn_cells (ho3.alloc (.cells #[.slice A3 N kc, .int .i64 (told : Int), .int .i64 (mn : Int)] 25)) (by omega) HBAD.out
                 have HB3 := Lib.hid ((HB.out.trans (hb3.mono HB.out.size)).alloc (Nat.le_trans HB.out.size hb3.size) (.cells #[.slice (some ad3) N kc, .int .i64 (told : Int), .int .i64 (mn : Int)] 25))
                 clear hbA ho3 hb3)
              | (go_at_call 12; refine (c2' _).mono ?_; clear c2'; rintro e w' ⟨rfl, rfl⟩))
            go_ret
            exact ⟨rfl, HB3.out⟩
          · have hb1 : 24 ≤ block := by omega
            clear hbk
            go_wp2_with (first
              | (go_at_call 7; refine c1'.mono ?_; clear c1'; rintro e w3 ⟨A3, kc, rfl, ho3, hb3⟩
                 have hbA : BoxV (w3.alloc (.cells #[.slice A3 N kc, .int .i64 (told : Int), .int .i64 (mn : Int)] 25)) w3.heap.size 25 [.slice A3 N kc, .int .i64 (told : Int), .int .i64 (mn : Int)] := BoxV.new w3 _ _
                 have p0 := hbA.cell (j := 0) rfl; have p1 := hbA.cell (j := 1) rfl; have p2 := hbA.cell (j := 2) rfl
                 obtain ⟨ad3, rfl, e0, e1⟩ := dn_cells (ho3.alloc (.cells #[.slice A3 N kc, .int .i64 (told : Int), .int .i64 (mn : Int)] 25)) (by omega) HBAD.out
                 have HB3 := Lib.hid ((HB.out.trans (hb3.mono HB.out.size)).alloc (Nat.le_trans HB.out.size hb3.size) (.cells #[.slice (some ad3) N kc, .int .i64 (told : Int), .int .i64 (mn : Int)] 25))
                 clear hbA ho3 hb3)
              | (go_at_call 12; refine (c2' _).mono ?_; clear c2'; rintro e w' ⟨rfl, rfl⟩))
            go_ret
            exact ⟨rfl, HB3.out⟩
        · obtain ⟨b, hbb⟩ : ∃ b : Nat, block = (b : Int) := ⟨block.toNat, by omega⟩
          subst hbb
          have hb24 : b < 24 := by omega
          have b0 : ¬ (b : Int) < 0 := by omega
          have b1 : ¬ 24 ≤ (b : Int) := by omega
          clear hbk
          go_wp2_with (first
              | (go_at_call 7; refine c1'.mono ?_; clear c1'; rintro e w3 ⟨A3, kc, rfl, ho3, hb3⟩
                 have hbA : BoxV (w3.alloc (.cells #[.slice A3 N kc, .int .i64 (told : Int), .int .i64 (mn : Int)] 25)) w3.heap.size 25 [.slice A3 N kc, .int .i64 (told : Int), .int .i64 (mn : Int)] := BoxV.new w3 _ _
                 have p0 := hbA.cell (j := 0) rfl; have p1 := hbA.cell (j := 1) rfl; have p2 := hbA.cell (j := 2) rfl
                 have HO3 := Lib.hid ((ho3.alloc (.cells #[.slice A3 N kc, .int .i64 (told : Int), .int .i64 (mn : Int)] 25)).low HB.out.size)
                 have HBX := Lib.hid hbA
                 have HB3 := Lib.hid ((HB.out.trans (hb3.mono HB.out.size)).alloc (Nat.le_trans HB.out.size hb3.size) (.cells #[.slice A3 N kc, .int .i64 (told : Int), .int .i64 (mn : Int)] 25))
                 clear hbA ho3 hb3)
              | (go_at_call 12; refine (c2' _).mono ?_; clear c2'; rintro e w' ⟨rfl, rfl⟩))
          obtain ⟨W, hW⟩ : ∃ x, x = w3.alloc (.cells #[.slice A3 N kc, .int .i64 (told : Int), .int .i64 (mn : Int)] 25) := ⟨_, rfl⟩
          rw [← hW]
          rw [← hW] at p0 p1 p2 HO3 HBX HB3
          have hpb : w3.heap.size < W.heap.size := by rw [hW]; simp
          obtain ⟨pb, hpbe⟩ : ∃ x, x = w3.heap.size := ⟨_, rfl⟩
          rw [← hpbe]
          rw [← hpbe] at p0 p1 p2 HBX hpb
          have HPB := Lib.hid hpb
          clear hW hpbe hpb HB
          go_loop [97] (fun iv => ∃ k : Nat, k ≤ m ∧ iv = .int .i64 (k : Int)) (fun iv => m - (intOf iv).toNat)
          case atStart => exact ⟨0, Nat.zero_le _, rfl⟩
          case round =>
            obtain ⟨k, hk, rfl⟩ := hrel
            by_cases hlt : k < m
            · obtain ⟨ad2, cc, rfl, hadb, hx, hc⟩ := (HR2.out.below HB3.out).nat_at hlt
              have hmo := all_more (mode := M) (d := D) (b := b) HL.out HM.out hb24 hx
              rw [HN.out, HOO.out, HLN.out] at hmo
              obtain ⟨ad3, rfl, e0, e1⟩ := dn_cells HO3.out (by have := HN2.out; omega) hmo
              have i0 : (0 : Int) ≤ (k : Int) := by omega
              have i1 : (k : Int) < (m : Int) := by omega
              have n0 : (0 : Int) ≤ (n : Int) + 3 + 2 * (k : Int) := by omega
              have n1 : (n : Int) + 3 + 2 * (k : Int) < (N : Int) := by have := HN2.out; omega
              have tc : ((cc : Int) != (cc : Int)) = false := by simp
              clear hx hmo
              go_wp2
              go_round
              case rel => exact ⟨k + 1, by omega, by go_num⟩
              case measure => simp [intOf] <;> omega
            · obtain rfl : m = k := by omega
              obtain ⟨V, hV⟩ : ∃ V, (playG (mvB D) M D startB (allS l (b : Int) more) (l.length + 1)).a1.1.getD b 0 = V := ⟨_, rfl⟩
              have hrd := all_read (mode := M) (d := D) (b := b) HL.out HM.out hb24
              rw [HN.out, HOO.out, hV, HLN.out] at hrd
              obtain ⟨ad3, rfl, f0, f1⟩ := dn_cells HO3.out (by have := HN2.out; omega) hrd
              have n0 : (0 : Int) ≤ (n : Int) + 1 := by omega
              have n1 : (n : Int) + 1 < (N : Int) := by have := HN2.out; omega
              have n2 : (n : Int) < (N : Int) := by have := HN2.out; omega
              have n3 : (0 : Int) ≤ (n : Int) := by omega
              have HV := Lib.hid hV
              clear hrd hV hlt hk
              rcases (all_ok (mode := M) (d := D) (block := (b : Int)) HL.out HM.out l.length (by have := HN.out; have := HN2.out; have := HLN.out; omega)).mn with hm0 | hm1
              · obtain ⟨s0, s1, s2⟩ := all_sw0 (mode := M) (d := D) (block := (b : Int)) HL.out HM.out hm0
                rw [HN.out, HOO.out, HLN.out] at s0
                rw [s1] at HV
                rw [HN.out, HTOLD.out, HLN.out] at s2
                rw [HLN.out] at HV
                obtain ⟨ad4, e4, g0, g1⟩ := dn_cells HO3.out (by have := HN2.out; omega) s0
                injection e4 with e4
                subst e4
                have HM0 := Lib.hid hm0
                have HT := Lib.hid s2
                clear s0 s1 s2 hm0
                go_wp2
                go_loopw [19, 20, 155] (fun ov cv iv wr => ∃ (k : Nat) (o : Bool), k ≤ n ∧ iv = .int .i64 (k : Int) ∧ ov = .bool o ∧ cv = .int .i64 (((playG (mvB D) M D startB (allS l (b : Int) more) k).ws.length : Nat) : Int) ∧ Hid (OkP (playG (mvB D) M D startB (allS l (b : Int) more) k).ws b told V o) ∧ BoxV wr pb 25 [.slice (some ad3) N kc, .int .i64 (told : Int), .int .i64 (mn : Int)] ∧ OwnK wr w.heap.size 37 2 (.slice (some ad3) N kc) (O.map dnC) ∧ Below w.heap.size w wr) (fun _ _ iv _ => n - (intOf iv).toNat)
                case atStart => exact ⟨0, false, Nat.zero_le _, rfl, rfl, rfl, OkP.start _ _ _, HBX.out, HO3.out, HB3.out⟩
                case round =>
                  obtain ⟨k, o, hk, rfl, rfl, rfl, hop, hbx, hdn, hbel⟩ := hrel
                  obtain ⟨wo, rfl⟩ : ∃ x, x = wr := ⟨_, rfl⟩
                  by_cases hlt : k < n
                  · have hmono : Hid (OkP (playG (mvB D) M D startB (allS l (b : Int) more) k).ws b told V o) := hop
                    obtain ⟨ad5, xs, rfl, hadb, hx, _, hc⟩ := (HR.out.below hbel).at_ hlt
                    rw [List.getElem?_map] at hx
                    obtain ⟨⟨kind, site, blk, v⟩, hmx, rfl⟩ := Option.map_eq_some_iff.1 hx
                    have d0 := hc 0 _ rfl
                    have d1 := hc 1 _ rfl
                    have d2 := hc 2 _ rfl
                    have d3 := hc 3 _ rfl
                    rw [Nat.add_zero] at d0
                    rw [add_offP _ _ _ (by decide)] at d1 d2 d3
                    obtain ⟨e, v', hO, hw1, hw2⟩ := all_step (mode := M) (d := D) (block := (b : Int)) HL.out HM.out HM0.out hmx
                    rw [HN.out, HOO.out] at hO
                    have hwl := (all_ok (mode := M) (d := D) (block := (b : Int)) HL.out HM.out k (by have := HN.out; have := HN2.out; omega)).le4
                    have hB1 : Below wo.heap.size wo (wo.alloc (.cells #[.int .i64 kind, .int .i64 site, .int .i64 blk, .int .u8 (v : Int)] 35)) := (Below.refl _ wo).alloc (Nat.le_refl _) _
                    have hbxA := hbx.alloc (.cells #[.int .i64 kind, .int .i64 site, .int .i64 blk, .int .u8 (v : Int)] 35)
                    have hdnA := hdn.below hB1 (Nat.le_refl _)
                    have hbeA := hbel.alloc (by have := hbel.size; omega) (.cells #[.int .i64 kind, .int .i64 site, .int .i64 blk, .int .u8 (v : Int)] 35)
                    obtain ⟨ad6, e6, q0, q1⟩ := dn_cells hdnA (show k < N by have := HN2.out; omega) hO
                    injection e6 with e6
                    subst e6
                    have hrd0 := all_read (mode := M) (d := D) (b := b) HL.out HM.out hb24
                    rw [HN.out, HOO.out, HLN.out] at hrd0
                    have b0' := hbxA.cell (j := 0) rfl; have b1' := hbxA.cell (j := 1) rfl
                    have hbs : BoxV (wo.alloc (.cells #[.int .i64 kind, .int .i64 site, .int .i64 blk, .int .u8 (v : Int)] 35)) wo.heap.size 35 [.int .i64 kind, .int .i64 site, .int .i64 blk, .int .u8 (v : Int)] := BoxV.new wo _ _
                    have x0 := hbs.cell (j := 0) rfl; have x1 := hbs.cell (j := 1) rfl; have x2 := hbs.cell (j := 2) rfl; have x3 := hbs.cell (j := 3) rfl
                    have j0 : (0 : Int) ≤ (k : Int) := by omega
                    have j1 : (k : Int) < (n : Int) := by omega
                    have j2 : (k : Int) < (N : Int) := by have := HN2.out; omega
                    have hV2 : (playG (mvB D) M D startB (allS l (b : Int) more) (l.length + 1)).a1.1.getD b 0 = V := by obtain ⟨_, s1, _⟩ := all_sw0 (mode := M) (d := D) (block := (b : Int)) HL.out HM.out HM0.out; rw [s1, HLN.out]; exact HV.out
                    rw [← HLN.out, hV2, HLN.out] at hrd0
                    have HRD := Lib.hid hrd0
                    have HBX2 := Lib.hid hbxA
                    have HDN := Lib.hid hdnA
                    have HBE := Lib.hid hbeA
                    obtain ⟨ws, hws⟩ : ∃ ws, (playG (mvB D) M D startB (allS l (b : Int) more) k).ws = ws := ⟨_, rfl⟩
                    rw [hws] at hw1 hw2 hop hwl
                    rw [hws]
                    obtain ⟨wl, hwl2⟩ : ∃ wl, ws.length = wl := ⟨_, rfl⟩
                    rw [hwl2]
                    rw [hwl2] at hwl
                    have HWL := Lib.hid hwl2
                    clear hmono
                    by_cases hacc : kind = 1 ∧ e = 0
                    · obtain ⟨rfl, rfl⟩ := hacc
                      have HWS := Lib.hid (hw1 rfl rfl)
                      clear hws hwl2 hx hc hmx hO hbx hdn hbel hB1 hbxA hdnA hbeA hbs hrd0 hV2 hw1 hw2
                      obtain ⟨ad7, e7, r0, r1⟩ := dn_cells HDN.out (show n + 1 < N by have := HN2.out; omega) HRD.out
                      injection e7 with e7
                      subst e7
                      by_cases hbl : blk = (b : Int)
                      · have tb : (blk == (b : Int)) = true := by simpa using hbl
                        by_cases hTT : wl + 1 ≤ told
                        · have j3 : (wl : Int) + 1 ≤ (told : Int) := by omega
                          by_cases hVv : v = V
                          · have tv : ((V : Int) == (v : Int)) = true := by simp [hVv]
                            have HOP : Hid (OkP (ws ++ [(⟨1, site, blk, v⟩ : StS)]) b told V true) := OkP.hit (o := o) hVv
                            clear hbl hTT hVv hop
                            go_wp2
                            go_quiet (fail)
                            go_wp2
                            go_roundw
                            case rel => exact ⟨k + 1, true, by omega, by go_num, rfl, by rw [HWS.out, List.length_append, HWL.out]; go_num, by rw [HWS.out]; exact HOP.out, HBX2.out.drewN _, HDN.out.drewN _, below_drewN HBE.out _⟩
                            case measure => simp [intOf] <;> omega
                          · have tv : ((V : Int) == (v : Int)) = false := by simp; omega
                            have HOP : Hid (OkP (ws ++ [(⟨1, site, blk, v⟩ : StS)]) b told V false) := OkP.drop hbl hVv (by rw [HWL.out]; exact hTT)
                            clear hbl hTT hVv hop
                            go_wp2
                            go_quiet (fail)
                            go_wp2
                            go_roundw
                            case rel => exact ⟨k + 1, false, by omega, by go_num, rfl, by rw [HWS.out, List.length_append, HWL.out]; go_num, by rw [HWS.out]; exact HOP.out, HBX2.out.drewN _, HDN.out.drewN _, below_drewN HBE.out _⟩
                            case measure => simp [intOf] <;> omega
                        · have j3 : ¬ (wl : Int) + 1 ≤ (told : Int) := by omega
                          cases o with
                          | true =>
                            have HOP : Hid (OkP (ws ++ [(⟨1, site, blk, v⟩ : StS)]) b told V true) := fun _ _ _ _ _ _ => rfl
                            clear hbl hTT hop
                            go_wp2
                            go_quiet (fail)
                            go_wp2
                            go_roundw
                            case rel => exact ⟨k + 1, true, by omega, by go_num, rfl, by rw [HWS.out, List.length_append, HWL.out]; go_num, by rw [HWS.out]; exact HOP.out, HBX2.out.drewN _, HDN.out.drewN _, below_drewN HBE.out _⟩
                            case measure => simp [intOf] <;> omega
                          | false =>
                            by_cases hVv : v = V
                            · have tv : ((V : Int) == (v : Int)) = true := by simp [hVv]
                              have HOP : Hid (OkP (ws ++ [(⟨1, site, blk, v⟩ : StS)]) b told V true) := OkP.hit (o := false) hVv
                              clear hbl hTT hVv hop
                              go_wp2
                              go_quiet (fail)
                              go_wp2
                              go_roundw
                              case rel => exact ⟨k + 1, true, by omega, by go_num, rfl, by rw [HWS.out, List.length_append, HWL.out]; go_num, by rw [HWS.out]; exact HOP.out, HBX2.out.drewN _, HDN.out.drewN _, below_drewN HBE.out _⟩
                              case measure => simp [intOf] <;> omega
                            · have tv : ((V : Int) == (v : Int)) = false := by simp; omega
                              have HOP : Hid (OkP (ws ++ [(⟨1, site, blk, v⟩ : StS)]) b told V false) := OkP.keep hop.out hVv
                              clear hbl hTT hVv hop
                              go_wp2
                              go_quiet (fail)
                              go_wp2
                              go_roundw
                              case rel => exact ⟨k + 1, false, by omega, by go_num, rfl, by rw [HWS.out, List.length_append, HWL.out]; go_num, by rw [HWS.out]; exact HOP.out, HBX2.out.drewN _, HDN.out.drewN _, below_drewN HBE.out _⟩
                              case measure => simp [intOf] <;> omega
                      · have tb : (blk == (b : Int)) = false := by simpa using hbl
                        have HOP : Hid (OkP (ws ++ [(⟨1, site, blk, v⟩ : StS)]) b told V o) := OkP.other hop.out hbl
                        clear hbl hop
                        go_wp2
                        go_roundw
                        case rel => exact ⟨k + 1, o, by omega, by go_num, rfl, by rw [HWS.out, List.length_append, HWL.out]; go_num, by rw [HWS.out]; exact HOP.out, HBX2.out, HDN.out, HBE.out⟩
                        case measure => simp [intOf] <;> omega
                    · have HWS := Lib.hid (hw2 hacc)
                      have HOP := hop
                      clear hws hwl2 hx hc hmx hO hbx hdn hbel hB1 hbxA hdnA hbeA hbs hrd0 hV2 hw1 hw2
                      by_cases k1 : kind = 1
                      · have t1 : (kind != 1) = false := by simp [k1]
                        have te : ((e : Int) != 0) = true := by simp; omega
                        clear k1 hacc hop
                        go_wp2
                        go_roundw
                        case rel => exact ⟨k + 1, o, by omega, by go_num, rfl, by rw [HWS.out, HWL.out], by rw [HWS.out]; exact HOP.out, HBX2.out, HDN.out, HBE.out⟩
                        case measure => simp [intOf] <;> omega
                      · have t1 : (kind != 1) = true := by simpa using k1
                        clear k1 hacc hop
                        go_wp2
                        go_roundw
                        case rel => exact ⟨k + 1, o, by omega, by go_num, rfl, by rw [HWS.out, HWL.out], by rw [HWS.out]; exact HOP.out, HBX2.out, HDN.out, HBE.out⟩
                        case measure => simp [intOf] <;> omega
                  · obtain rfl : n = k := by omega
                    have HOP := hop
                    have HBXA := Lib.hid hbx
                    have HDNA := Lib.hid hdn
                    have HBEA := Lib.hid hbel
                    clear hop hbx hdn hbel hlt hk
                    go_wp2
                    go_loopw [20, 23, 24, 204] (fun cv qv fv iv wr => ∃ (k q : Nat) (f : Bool), k ≤ n ∧ q ≤ k ∧ iv = .int .i64 (k : Int) ∧ cv = .int .i64 (((playG (mvB D) M D startB (allS l (b : Int) more) k).ws.length : Nat) : Int) ∧ qv = .int .i64 (q : Int) ∧ fv = .bool f ∧ Hid (FiP (playG (mvB D) M D startB (allS l (b : Int) more) k).ws b told f q) ∧ BoxV wr pb 25 [.slice (some ad3) N kc, .int .i64 (told : Int), .int .i64 (mn : Int)] ∧ OwnK wr w.heap.size 37 2 (.slice (some ad3) N kc) (O.map dnC) ∧ Below w.heap.size w wr) (fun _ _ _ iv _ => n - (intOf iv).toNat)
                    case atStart => exact ⟨0, 0, true, Nat.zero_le _, Nat.le_refl _, rfl, rfl, rfl, rfl, FiP.start _ _, HBXA.out, HDNA.out, HBEA.out⟩
                    case round =>
                      obtain ⟨k, q, f, hk, hqk, rfl, rfl, rfl, rfl, hfi, hbx, hdn, hbel⟩ := hrel
                      obtain ⟨wo, rfl⟩ : ∃ x, x = wr := ⟨_, rfl⟩
                      clear HBXA HDNA HBEA
                      by_cases hlt : k < n
                      · have hfi0 : Hid (FiP (playG (mvB D) M D startB (allS l (b : Int) more) k).ws b told f q) := hfi
                        obtain ⟨ad5, xs, rfl, hadb, hx, _, hc⟩ := (HR.out.below hbel).at_ hlt
                        rw [List.getElem?_map] at hx
                        obtain ⟨⟨kind, site, blk, v⟩, hmx, rfl⟩ := Option.map_eq_some_iff.1 hx
                        have d0 := hc 0 _ rfl
                        have d1 := hc 1 _ rfl
                        have d2 := hc 2 _ rfl
                        have d3 := hc 3 _ rfl
                        rw [Nat.add_zero] at d0
                        rw [add_offP _ _ _ (by decide)] at d1 d2 d3
                        obtain ⟨e, v', hO, hw1, hw2⟩ := all_step (mode := M) (d := D) (block := (b : Int)) HL.out HM.out HM0.out hmx
                        rw [HN.out, HOO.out] at hO
                        have hwl := (all_ok (mode := M) (d := D) (block := (b : Int)) HL.out HM.out k (by have := HN.out; have := HN2.out; omega)).le4
                        have hB1 : Below wo.heap.size wo (wo.alloc (.cells #[.int .i64 kind, .int .i64 site, .int .i64 blk, .int .u8 (v : Int)] 35)) := (Below.refl _ wo).alloc (Nat.le_refl _) _
                        have hbxA := hbx.alloc (.cells #[.int .i64 kind, .int .i64 site, .int .i64 blk, .int .u8 (v : Int)] 35)
                        have hdnA := hdn.below hB1 (Nat.le_refl _)
                        have hbeA := hbel.alloc (by have := hbel.size; omega) (.cells #[.int .i64 kind, .int .i64 site, .int .i64 blk, .int .u8 (v : Int)] 35)
                        obtain ⟨ad6, e6, q0, q1⟩ := dn_cells hdnA (show k < N by have := HN2.out; omega) hO
                        injection e6 with e6
                        subst e6
                        have b0' := hbxA.cell (j := 0) rfl; have b1' := hbxA.cell (j := 1) rfl
                        have hbs : BoxV (wo.alloc (.cells #[.int .i64 kind, .int .i64 site, .int .i64 blk, .int .u8 (v : Int)] 35)) wo.heap.size 35 [.int .i64 kind, .int .i64 site, .int .i64 blk, .int .u8 (v : Int)] := BoxV.new wo _ _
                        have x0 := hbs.cell (j := 0) rfl; have x1 := hbs.cell (j := 1) rfl; have x2 := hbs.cell (j := 2) rfl; have x3 := hbs.cell (j := 3) rfl
                        have j0 : (0 : Int) ≤ (k : Int) := by omega
                        have j1 : (k : Int) < (n : Int) := by omega
                        have j2 : (k : Int) < (N : Int) := by have := HN2.out; omega
                        have HBX2 := Lib.hid hbxA
                        have HDN := Lib.hid hdnA
                        have HBE := Lib.hid hbeA
                        obtain ⟨ws, hws⟩ : ∃ ws, (playG (mvB D) M D startB (allS l (b : Int) more) k).ws = ws := ⟨_, rfl⟩
                        rw [hws] at hw1 hw2 hfi hwl
                        rw [hws]
                        obtain ⟨wl, hwl2⟩ : ∃ wl, ws.length = wl := ⟨_, rfl⟩
                        rw [hwl2]
                        rw [hwl2] at hwl
                        have HWL := Lib.hid hwl2
                        clear hfi0
                        by_cases hacc : kind = 1 ∧ e = 0
                        · obtain ⟨rfl, rfl⟩ := hacc
                          have HWS := Lib.hid (hw1 rfl rfl)
                          clear hws hwl2 hx hc hmx hO hbx hdn hbel hB1 hbxA hdnA hbeA hbs hw1 hw2
                          by_cases hbl : blk = (b : Int)
                          · have tb : (blk == (b : Int)) = true := by simpa using hbl
                            by_cases hTT : wl + 1 ≤ told
                            · have j3 : (wl : Int) + 1 ≤ (told : Int) := by omega
                              have HFI : Hid (FiP (ws ++ [(⟨1, site, blk, v⟩ : StS)]) b told false (q + 1)) := FiP.told (q := q) (f := f) hbl (by rw [HWL.out]; exact hTT) false (q + 1)
                              clear hbl hTT hfi
                              go_wp2
                              go_roundw
                              case rel => exact ⟨k + 1, q + 1, false, by omega, by omega, by go_num, by rw [HWS.out, List.length_append, HWL.out]; go_num, by go_num, rfl, by rw [HWS.out]; exact HFI.out, HBX2.out, HDN.out, HBE.out⟩
                              case measure => simp [intOf] <;> omega
                            · have j3 : ¬ (wl : Int) + 1 ≤ (told : Int) := by omega
                              have HFI : Hid (FiP (ws ++ [(⟨1, site, blk, v⟩ : StS)]) b told f q) := FiP.other hfi.out
                              clear hbl hTT hfi
                              go_wp2
                              go_roundw
                              case rel => exact ⟨k + 1, q, f, by omega, by omega, by go_num, by rw [HWS.out, List.length_append, HWL.out]; go_num, rfl, rfl, by rw [HWS.out]; exact HFI.out, HBX2.out, HDN.out, HBE.out⟩
                              case measure => simp [intOf] <;> omega
                          · have tb : (blk == (b : Int)) = false := by simpa using hbl
                            have HFI : Hid (FiP (ws ++ [(⟨1, site, blk, v⟩ : StS)]) b told f q) := FiP.other hfi.out
                            clear hbl hfi
                            go_wp2
                            go_roundw
                            case rel => exact ⟨k + 1, q, f, by omega, by omega, by go_num, by rw [HWS.out, List.length_append, HWL.out]; go_num, rfl, rfl, by rw [HWS.out]; exact HFI.out, HBX2.out, HDN.out, HBE.out⟩
                            case measure => simp [intOf] <;> omega
                        · have HWS := Lib.hid (hw2 hacc)
                          have HFI := hfi
                          clear hws hwl2 hx hc hmx hO hbx hdn hbel hB1 hbxA hdnA hbeA hbs hw1 hw2
                          by_cases k1 : kind = 1
                          · have t1 : (kind == 1) = true := by simp [k1]
                            have te : ((e : Int) == 0) = false := by simp; omega
                            clear k1 hacc hfi
                            go_wp2
                            go_roundw
                            case rel => exact ⟨k + 1, q, f, by omega, by omega, by go_num, by rw [HWS.out, HWL.out], rfl, rfl, by rw [HWS.out]; exact HFI.out, HBX2.out, HDN.out, HBE.out⟩
                            case measure => simp [intOf] <;> omega
                          · have t1 : (kind == 1) = false := by simpa using k1
                            clear k1 hacc hfi
                            go_wp2
                            go_roundw
                            case rel => exact ⟨k + 1, q, f, by omega, by omega, by go_num, by rw [HWS.out, HWL.out], rfl, rfl, by rw [HWS.out]; exact HFI.out, HBX2.out, HDN.out, HBE.out⟩
                            case measure => simp [intOf] <;> omega
                      · obtain rfl : n = k := by omega
                        have hok := all_ok (mode := M) (d := D) (block := (b : Int)) HL.out HM.out n (by have := HN.out; have := HN2.out; omega)
                        have hT := HT.out
                        have hV := HV.out
                        obtain ⟨t, ht⟩ : ∃ t, (playG (mvB D) M D startB (allS l (b : Int) more) n) = t := ⟨_, rfl⟩
                        rw [ht] at hok hT hV hfi
                        have hop := HOP.out
                        rw [ht] at hop
                        rw [ht]
                        have hk5 := hok.le5
                        by_cases hM : M = 1
                        · have tM : ((M : Int) == 1) = true := by simp [hM]
                          have tT : ((told : Int) == ((t.ws.length : Nat) : Int)) = true := by rw [hT, tellG, if_pos hM]; simp
                          have HBE := Lib.hid hbel
                          have c1b := hbx.cell (j := 1) rfl
                          clear hok hT hV ht hfi hop HOP hbx hdn hbel hk5 hM hk hqk hlt
                          go_wp2
                          go_ret
                          exact ⟨rfl, HBE.out⟩
                        · have tM : ((M : Int) == 1) = false := by simp; omega
                          have hTg : told ≤ t.g := by rw [hT, tellG, if_neg hM]; exact hk5
                          have hend := sw_end hb24 (wsIn hok) hV hTg hop hfi.out
                          have HBE := Lib.hid hbel
                          have HBXF := Lib.hid hbx
                          have HDNF := Lib.hid hdn
                          clear hok hT hV ht hfi hop HOP hbx hdn hbel hk5 hM hk hqk hlt hTg
                          rcases hend with rfl | ⟨rfl, rfl, rfl, rfl⟩
                          · go_wp2
                            go_ret
                            exact ⟨rfl, HBE.out⟩
                          · have hrd := all_read (mode := M) (d := D) (b := b) HL.out HM.out hb24
                            have hV2 : (playG (mvB D) M D startB (allS l (b : Int) more) (l.length + 1)).a1.1.getD b 0 = 0 := by obtain ⟨_, s1, _⟩ := all_sw0 (mode := M) (d := D) (block := (b : Int)) HL.out HM.out HM0.out; rw [s1, HLN.out]; exact HV.out
                            rw [HN.out, HOO.out, hV2, HLN.out] at hrd
                            obtain ⟨ad7, e7, r0, r1⟩ := dn_cells HDNF.out (show n + 1 < N by have := HN2.out; omega) hrd
                            injection e7 with e7
                            subst e7
                            have c0b := HBXF.out.cell (j := 0) rfl
                            clear hrd hV2
                            go_wp2
                            go_ret
                            exact ⟨rfl, HBE.out⟩
              · have s1 := all_sw1 (mode := M) (d := D) (block := (b : Int)) HL.out HM.out hm1
                rw [HN.out, HOO.out, HLN.out] at s1
                obtain ⟨ad4, e4, g0, g1⟩ := dn_cells HO3.out (by have := HN2.out; omega) s1
                injection e4 with e4
                subst e4
                clear s1 hm1
                go_wp2
                go_ret
                exact ⟨rfl, HB3.out⟩
      · have c1' := pair_Play_no mode d A1 N c1 wo hd
        have c2' := fun W => top_may mode d A1 N c1 W false (by simp only [Hid, mayB, decide_eq_false_iff_not]; exact hd)
        have HB := Lib.hid hbel
        clear hd hown hbel
        go_wp2_with (first
          | (go_at_call 7; refine c1'.mono ?_; clear c1'; rintro e w1 ⟨z, rfl, hz, hb1⟩)
          | (go_at_call 12; refine (c2' _).mono ?_; clear c2'; rintro e w' ⟨rfl, rfl⟩))
        go_ret
        exact ⟨by first | rfl | rw [hz] | simp_all, (HB.out.trans (hb1.mono HB.out.size)).alloc (Nat.le_trans HB.out.size hb1.size) _⟩
end Go.Proofs.Ytbhhijdpmpcdnaa

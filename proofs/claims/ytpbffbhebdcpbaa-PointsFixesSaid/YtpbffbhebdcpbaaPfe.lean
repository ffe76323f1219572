/-
  points.each: the closure that calls itself.
-/
import Derived.Test.YtpbffbhebdcpbaaPfk
import Derived.Laws.EntriesVeiled
set_option linter.unusedVariables false
namespace Go.Proofs.Ytpbffbhebdcpbaa
open Go.RowKit Go.Shelf
attribute [local go_sem] Oper.semAt_some

/-- the boxes that the closure has captured -/
structure Bx (W : World) (k n l kb nb yb ob : Nat) : Prop where
  ck : W.cell? ⟨kb, 0, none⟩ = some (.int .i64 (k : Int))
  cn : W.cell? ⟨nb, 0, none⟩ = some (.int .i64 (n : Int))
  cy : W.cell? ⟨yb, 0, none⟩ = some (.func (.yield l) #[] #[])
  co : W.cell? ⟨ob, 0, none⟩ = some (.func (.func 50) #[] #[.pointer (some ⟨kb, 0, none⟩), .pointer (some ⟨yb, 0, none⟩), .pointer (some ⟨nb, 0, none⟩), .pointer (some ⟨ob, 0, none⟩)])
theorem Bx.kc {A B : World} {k n l kb nb yb ob R : Nat} {row : Option Nat} (h : Bx A k n l kb nb yb ob) (hk : KC row A B) (hr : ∀ g, row = some g → R ≤ g) (h1 : kb < R) (h2 : nb < R) (h3 : yb < R) (h4 : ob < R) : Bx B k n l kb nb yb ob :=
  ⟨hk.cell h.ck (fun e => by have := hr _ e; simp at this; omega), hk.cell h.cn (fun e => by have := hr _ e; simp at this; omega), hk.cell h.cy (fun e => by have := hr _ e; simp at this; omega), hk.cell h.co (fun e => by have := hr _ e; simp at this; omega)⟩
/-- what a call of the closure comes to -/
def OnP (n m : Nat) (J Jx : List (List Nat) → World → Prop) (pre : List (List Nat)) (L : List Nat) (i R1 : Nat) (v : Value) (W : World) (e : Ending) (W' : World) : Prop :=
  (e = .returned (.bool true) ∧ J (pre ++ exts n m L i) W' ∧ KC v.ownBlock W W' ∧ OwnQ W' R1 3 1 v (iL L)) ∨ (e = .returned (.bool false) ∧ ∃ q, Jx q W')
def OnB (n m : Nat) (J Jx : List (List Nat) → World → Prop) (pre : List (List Nat)) (L : List Nat) (i R1 : Nat) (v : Value) (W : World) (b : Bool) (W' : World) : Prop :=
  (b = true ∧ J (pre ++ exts n m L i) W' ∧ KC v.ownBlock W W' ∧ OwnQ W' R1 3 1 v (iL L)) ∨ (b = false ∧ ∃ q, Jx q W')
theorem OnP.b {n m : Nat} {J Jx : List (List Nat) → World → Prop} {pre : List (List Nat)} {L : List Nat} {i R1 : Nat} {v : Value} {W W' : World} {e : Ending} (h : OnP n m J Jx pre L i R1 v W e W') : ∃ b, e = .returned (.bool b) ∧ OnB n m J Jx pre L i R1 v W b W' := by
  rcases h with ⟨rfl, h⟩ | ⟨rfl, h⟩
  · exact ⟨true, rfl, .inl ⟨rfl, h⟩⟩
  · exact ⟨false, rfl, .inr ⟨rfl, h⟩⟩
/-- a choice that is handed on, in memory -/
def PreP (n k : Nat) (x : List Nat × Option Addr × Nat) (W : World) : Prop := Inc n k x.1 ∧ Reads W W.heap.size x.2.1 k (vn .i64 x.1)
def encP (k : Nat) (x : List Nat × Option Addr × Nat) : Array Value := #[.slice x.2.1 k x.2.2]
set_option maxRecDepth 100000 in
set_option maxHeartbeats 1000000 in
theorem on_leaf (n k l kb nb yb ob R1 i : Nat) (L : List Nat) (A : Option Addr) (c : Nat) (J Jx : List (List Nat) → World → Prop) (pre : List (List Nat)) (W : World)
    (hY : YieldAt Fence.wide 2 Try.prog l #[.slice A k c] W fun e W' => (e = .returned (.bool true) ∧ J (pre ++ [L]) W' ∧ KA W W') ∨ (e = .returned (.bool false) ∧ Jx (pre ++ [L]) W'))
    (hB : Bx W k n l kb nb yb ob) (hown : OwnQ W R1 3 1 (.slice A k c) (iL L)) :
    Calls Try.prog 50 #[.slice A k c, .int .i64 (i : Int), .pointer (some ⟨kb, 0, none⟩), .pointer (some ⟨yb, 0, none⟩), .pointer (some ⟨nb, 0, none⟩), .pointer (some ⟨ob, 0, none⟩)] W (OnP n 0 J Jx pre L i R1 (.slice A k c) W) := by
  obtain ⟨fn, tmps, assign, body, hy, hR⟩ := hY
  have ck := hB.ck
  have cy := hB.cy
  have HOWN := Lib.hid hown
  clear hown hB
  refine (callsIn_wide (n := 3)).1 ?_
  refine callsIn_of_wp Try.func50 rfl trivial ?_ rfl
  simp only [Try.ntmps50, List.size_toArray, List.length_cons, List.length_nil, Nat.reduceAdd, Nat.reduceSub, Array.replicate_succ, Array.replicate_zero, List.push_toArray, List.append_toArray, List.nil_append, List.cons_append]
  gi_wp2
  refine hR.mono ?_
  rintro e W3 (⟨rfl, hJ3, hk3⟩ | ⟨rfl, hx3⟩)
  · gi_wp2
    go_ret
    exact .inl ⟨rfl, hJ3, KC.of_KA hk3, HOWN.out.kc (row := none) (KC.of_KA hk3) (fun g _ h => by cases h)⟩
  · gi_wp2
    go_ret
    exact .inr ⟨rfl, _, hx3⟩
theorem nodup_le {n : Nat} : ∀ {L : List Nat}, L.Nodup → (∀ j ∈ L, j < n) → L.length ≤ n := by
  intro L hd hl
  have h := List.Nodup.length_le_of_subset hd (l₂ := List.range n) (fun j hj => List.mem_range.2 (hl j hj))
  rwa [List.length_range] at h
/-- one choice further, and back -/
theorem on_next {wa w5 w9 : World} {R1 j : Nat} {L : List Nat} {v v5 : Value} (hQ : OwnQ wa R1 3 1 v (iL L)) (hg5 : wa.grownBy w5 v.ownBlock)
    (hat5 : (∃ ad c, v = .slice ad (iL L).length c ∧ v5 = .slice ad ((iL L).length + 1) c) ∨ (v5.ownBlock = some wa.heap.size ∧ wa.grownBy w5 none))
    (hk9 : KC v5.ownBlock w5 w9) (ho9 : OwnQ w9 R1 3 1 v5 (iL (L ++ [j]))) : KC v.ownBlock wa w9 ∧ OwnQ w9 R1 3 1 v (iL L) := by
  rcases hat5 with ⟨ad, c, rfl, rfl⟩ | ⟨h1, h2⟩
  · refine ⟨(KC.grown hg5).trans hk9 (fun b _ h => by cases ad <;> exact h), ?_⟩
    rw [← iL_snoc] at ho9
    exact ho9.init rfl
  · refine ⟨(KC.grown hg5).trans hk9 (fun b hb h => ?_), ?_⟩
    · rw [h1] at h; injection h with h; omega
    · refine (hQ.heapAt (w' := w5) fun g hg => h2.block g (hQ.lt g hg).2 (by simp)).kc hk9 fun g hg h => ?_
      rw [h1] at h; injection h with h
      have := (hQ.lt g hg).2; omega
set_option maxRecDepth 100000 in
set_option maxHeartbeats 600000 in
theorem on_step (n k m l kb nb yb ob R0 R1 i : Nat) (L : List Nat) (A : Option Addr) (c p : Nat) (hn : n ≤ 9) (hR : R0 ≤ R1) (h1 : kb < R1) (h2 : nb < R1) (h3 : yb < R1) (h4 : ob < R1) (J Jx : List (List Nat) → World → Prop) (pre : List (List Nat)) (W : World)
    (hJ : ∀ pre A B, J pre A → St R0 A B → J pre B)
    (ih : ∀ (L : List Nat) (i : Nat) (A : Option Addr) (c : Nat) (pre : List (List Nat)) (W : World), L.length + m = k → L.Pairwise (· < ·) → (∀ j ∈ L, j < i) → (∀ j ∈ L, j < n) → i ≤ n → Bx W k n l kb nb yb ob → OwnQ W R1 3 1 (.slice A L.length c) (iL L) → R1 ≤ W.heap.size → J pre W →
      Calls Try.prog 50 #[.slice A L.length c, .int .i64 (i : Int), .pointer (some ⟨kb, 0, none⟩), .pointer (some ⟨yb, 0, none⟩), .pointer (some ⟨nb, 0, none⟩), .pointer (some ⟨ob, 0, none⟩)] W (OnP n m J Jx pre L i R1 (.slice A L.length c) W))
    (hp : L.length = p) (hk : p + (m + 1) = k) (hup : L.Pairwise (· < ·)) (hli : ∀ j ∈ L, j < i) (hln : ∀ j ∈ L, j < n) (hin : i ≤ n) (hB : Bx W k n l kb nb yb ob) (hown : OwnQ W R1 3 1 (.slice A p c) (iL L)) (hsz : R1 ≤ W.heap.size) (hJ0 : J pre W) :
    Calls Try.prog 50 #[.slice A p c, .int .i64 (i : Int), .pointer (some ⟨kb, 0, none⟩), .pointer (some ⟨yb, 0, none⟩), .pointer (some ⟨nb, 0, none⟩), .pointer (some ⟨ob, 0, none⟩)] W (OnP n (m + 1) J Jx pre L i R1 (.slice A p c) W) := by
  have ck := hB.ck
  have hpk : ((p : Int) == (k : Int)) = false := by simp; omega
  have HP := Lib.hid hp
  have HUP := Lib.hid hup
  have HLI := Lib.hid hli
  have HLN := Lib.hid hln
  have HIH := Lib.hid ih
  have HJ := Lib.hid hJ
  have HB := Lib.hid hB
  have HK := Lib.hid hk
  clear hp hup hli hln ih hJ hB hk
  go_enter Try.func50, Try.ntmps50
  go_wp2
  go_loopw [9] (fun iv wr => ∃ j : Nat, i ≤ j ∧ j ≤ n ∧ iv = .int .i64 (j : Int) ∧ J (pre ++ extT n m L i j) wr ∧ KC (Value.slice A p c).ownBlock W wr ∧ OwnQ wr R1 3 1 (.slice A p c) (iL L)) (fun iv _ => n - (intOf iv).toNat)
  case atStart => exact ⟨i, Nat.le_refl _, hin, rfl, by rw [extT_start, List.append_nil]; exact hJ0, KC.refl _ _, hown⟩
  case round =>
    obtain ⟨j, hij, hjn, rfl, hJr, hkc, hor⟩ := hrel
    obtain ⟨wo, rfl⟩ : ∃ x, x = wr := ⟨_, rfl⟩
    clear ck hown hJ0
    have hbx := HB.out.kc hkc (fun g e => (hor.lt g e).1) h1 h2 h3 h4
    have hszo : R1 ≤ wo.heap.size := Nat.le_trans hsz hkc.size
    have cn := hbx.cn
    by_cases hlt : j < n
    · have j1 : (j : Int) < (n : Int) := by omega
      have co := hbx.co
      have coa : (wo.alloc (.cells #[.int .i64 (j : Int)] 3)).cell? ⟨ob, 0, none⟩ = _ := (World.cell?_alloc_lt wo (.cells #[.int .i64 (j : Int)] 3) ⟨ob, 0, none⟩ (by show ob < wo.heap.size; omega)).trans co
      have hq := (hor.alloc (.cells #[.int .i64 (j : Int)] 3)).drew
      have hkca : KC (Value.slice A p c).ownBlock wo (wo.alloc (.cells #[.int .i64 (j : Int)] 3)).drew := ((KC.refl _ wo).alloc _).drew
      have hsta : St R0 wo (wo.alloc (.cells #[.int .i64 (j : Int)] 3)).drew := ((St.refl R0 wo).alloc (by omega) _).drew
      have hsza : wo.heap.size ≤ (wo.alloc (.cells #[.int .i64 (j : Int)] 3)).drew.heap.size := hkca.size
      have hnew : ∀ t u, [Value.int .i64 (j : Int)][t]? = some u → (wo.alloc (.cells #[.int .i64 (j : Int)] 3)).drew.cell? ((⟨wo.heap.size, 0, none⟩ : Addr).add t) = some u := fun t u hu => by
        rw [add_row]; exact (BoxV.new wo [.int .i64 (j : Int)] 3).cell hu
      have hl9 : (iL L).length ≤ 9 := by
        rw [iL_len]
        have h5 := List.Pairwise.imp (fun (h : _ < _) => Nat.ne_of_lt h) HUP.out
        have h6 := HLN.out
        have := nodup_le h5 h6
        omega
      have hL1 : ∀ a ∈ L ++ [j], a < j + 1 := fun a ha => by
        rcases List.mem_append.1 ha with h | h
        · have := HLI.out a h; omega
        · rw [List.mem_singleton.1 h]; omega
      have hL2 : ∀ a ∈ L ++ [j], a < n := fun a ha => by
        rcases List.mem_append.1 ha with h | h
        · exact HLN.out a h
        · rw [List.mem_singleton.1 h]; omega
      have hL3 : (L ++ [j]).Pairwise (· < ·) := by
        rw [List.pairwise_append]
        exact ⟨HUP.out, List.pairwise_singleton _ _, fun a ha b hb => by rw [List.mem_singleton.1 hb]; have := HLI.out a ha; omega⟩
      have hL4 : (L ++ [j]).length = p + 1 := by rw [List.length_append, HP.out]; rfl
      have HL1 := Lib.hid hL1
      have HL2 := Lib.hid hL2
      have HL3 := Lib.hid hL3
      have HL4 := Lib.hid hL4
      clear hL1 hL2 hL3 hL4
      have HQ := Lib.hid hq
      have HKC := Lib.hid hkc
      have HKCA := Lib.hid hkca
      have HSTA := Lib.hid hsta
      have HNEW := Lib.hid hnew
      have HBX := Lib.hid hbx
      have HJR := Lib.hid hJr
      have e1 : ((j + 1 : Nat) : Int) = (j : Int) + 1 := by omega
      have E1 := Lib.hid e1
      clear hq hkc hkca hsta hnew hbx hJr hor e1
      have hwr : IntKind.i64.wrap ((j : Int) + 1) = (j : Int) + 1 := by rw [IntKind.wrap_i64]; omega
      generalize hwa : (wo.alloc (.cells #[.int .i64 (j : Int)] 3)).drew = wa at HQ HKCA HSTA HNEW hsza
      have HWA := Lib.hid hwa
      clear hwa
      go_wp2
      go_region_law (first
        | (refine step_appQk el_int1F rfl (.tmp 24) (.tmp 26) rfl (by first | rfl | (go_simp; done) | (go_simp; rfl)) (by rw [HWA.out]; exact HQ.out) ⟨wo.heap.size, 0, none⟩ 1 [.int .i64 (j : Int)] (by first | rfl | (go_simp; done) | (go_simp; rfl)) rfl (by rw [HWA.out]; exact HNEW.out) (by intro u hu; rw [List.mem_singleton.1 hu]; rfl) (by unfold maxLen; omega) (by omega) (by rw [HWA.out]; omega) ?_
           intro v5 w5 ho5 hg5 hat5
           rw [HWA.out] at hg5 hat5
           rw [iL_snoc] at ho5
           obtain ⟨A5, c5, hv5⟩ := ho5.form
           rw [iL_len, HL4.out] at hv5
           have hv6 : v5 = .slice A5 (p + 1) c5 := hv5
           subst hv6
           have hk5 : KC (Value.slice A p c).ownBlock wo w5 := HKCA.out.trans (KC.grown hg5) (fun b _ h => h)
           have hb5 := HBX.out.kc hk5 (fun g e => (HQ.out.lt g e).1) h1 h2 h3 h4
           have hst5 : St R0 wo w5 := HSTA.out.trans (St.grown hg5 (by omega) (fun g e => ⟨Nat.le_trans hR (HQ.out.lt g e).1, by obtain ⟨cur, hc⟩ := HQ.out.ty e; exact ⟨_, _, _, hc⟩⟩))
           have cc' := HIH.out (L ++ [j]) (j + 1) A5 c5 (pre ++ extT n m L i j) w5 (by rw [HL4.out]; have := HK.out; omega) HL3.out HL1.out HL2.out (by omega) hb5 (by rw [HL4.out]; exact ho5) (Nat.le_trans hszo hk5.size) (HJ.out _ _ _ HJR.out hst5)
           rw [E1.out, HL4.out] at cc'
           have cc := cc'.mono fun _ _ h => h.b
           clear cc'
           have co5 := hb5.co
           clear hb5 hk5 hst5 ho5)
        | (go_simp; (try rw [hwr]); go_at_call 50; refine cc.mono ?_; clear cc; rintro e w9 ⟨b9, rfl, h9⟩))
      all_goals
        rcases h9 with ⟨rfl, hJ9, hk9, ho9⟩ | ⟨rfl, q9, hx9⟩
        · obtain ⟨hk10, ho10⟩ := on_next HQ.out hg5 hat5 hk9 ho9
          have hJ10 : J (pre ++ extT n m L i (j + 1)) w9 := by rw [extT_next n m L hij, ← List.append_assoc]; exact hJ9
          have hk11 := HKC.out.trans (HKCA.out.trans hk10 (fun b _ h => h)) (fun b _ h => h)
          clear hk9 ho9 hg5 hat5 hJ9 hk10
          go_wp2
          go_roundw
          case rel => exact ⟨j + 1, by omega, by omega, by go_num, hJ10, hk11, ho10⟩
          case measure => simp [intOf] <;> omega
        · clear hg5 hat5
          go_wp2
          go_ret
          exact .inr ⟨rfl, q9, hx9⟩
    · obtain rfl : n = j := by omega
      have j1 : ¬ (n : Int) < (n : Int) := by omega
      go_wp2
      go_ret
      exact .inl ⟨rfl, by rw [← extT_all]; exact hJr, hkc, hor⟩
theorem on_all (n k l kb nb yb ob R0 R1 : Nat) (hn : n ≤ 9) (hR : R0 ≤ R1) (h1 : kb < R1) (h2 : nb < R1) (h3 : yb < R1) (h4 : ob < R1) (J Jx : List (List Nat) → World → Prop)
    (hJ : ∀ pre A B, J pre A → St R0 A B → J pre B)
    (hY : ∀ pre x W1, J pre W1 → PreP n k x W1 → YieldAt Fence.wide 2 Try.prog l (encP k x) W1 fun e W' => (e = .returned (.bool true) ∧ J (pre ++ [x.1]) W' ∧ KA W1 W') ∨ (e = .returned (.bool false) ∧ Jx (pre ++ [x.1]) W')) :
    ∀ (m : Nat) (L : List Nat) (i : Nat) (A : Option Addr) (c : Nat) (pre : List (List Nat)) (W : World), L.length + m = k → L.Pairwise (· < ·) → (∀ j ∈ L, j < i) → (∀ j ∈ L, j < n) → i ≤ n → Bx W k n l kb nb yb ob → OwnQ W R1 3 1 (.slice A L.length c) (iL L) → R1 ≤ W.heap.size → J pre W →
      Calls Try.prog 50 #[.slice A L.length c, .int .i64 (i : Int), .pointer (some ⟨kb, 0, none⟩), .pointer (some ⟨yb, 0, none⟩), .pointer (some ⟨nb, 0, none⟩), .pointer (some ⟨ob, 0, none⟩)] W (OnP n m J Jx pre L i R1 (.slice A L.length c) W)
  | 0, L, i, A, c, pre, W, hk, hup, hli, hln, hin, hB, hown, hsz, hJ0 => by
    obtain rfl : L.length = k := by omega
    exact on_leaf n L.length l kb nb yb ob R1 i L A c J Jx pre W (hY pre (L, A, c) W hJ0 ⟨⟨rfl, hup, hln⟩, hown.readsI⟩) hB hown
  | m + 1, L, i, A, c, pre, W, hk, hup, hli, hln, hin, hB, hown, hsz, hJ0 =>
    on_step n k m l kb nb yb ob R0 R1 i L A c L.length hn hR h1 h2 h3 h4 J Jx pre W hJ (on_all n k l kb nb yb ob R0 R1 hn hR h1 h2 h3 h4 J Jx hJ hY m) rfl (by omega) hup hli hln hin hB hown hsz hJ0
theorem St.setCell {R b j : Nat} {A B : World} {cs : Array Value} {E : TypeId} {m : Nat × Nat} (h : St R A B) (hb : R ≤ b) (hc : B.heap[b]? = some (Obj.cells cs E m)) (u : Value) : St R A (B.setCell ⟨b, j, none⟩ u) :=
  ⟨h.os, h.tape, h.output, by simpa using h.size, fun c hlt => by rw [Below.heap_setCell B _ _ c (fun e => by simp at e; omega)]; exact h.low c hlt, fun c o ho hn => by
    have h1 := h.other c o ho hn
    by_cases e : c = b
    · subst e
      rw [hc] at h1; injection h1 with h1; subst h1; cases hn
    · rw [Below.heap_setCell B _ _ c e]; exact h1⟩
set_option maxRecDepth 100000 in
set_option maxHeartbeats 1000000 in
theorem each_1 (n k l kb nb : Nat) (hn : n ≤ 9) (J Jx : List (List Nat) → World → Prop) (W : World) (hkb : kb < W.heap.size) (hnb : nb < W.heap.size)
    (ck : W.cell? ⟨kb, 0, none⟩ = some (.int .i64 (k : Int))) (cn : W.cell? ⟨nb, 0, none⟩ = some (.int .i64 (n : Int)))
    (hJ : ∀ pre A B, J pre A → St W.heap.size A B → J pre B)
    (hY : ∀ pre x W1, J pre W1 → PreP n k x W1 → YieldAt Fence.wide 2 Try.prog l (encP k x) W1 fun e W' => (e = .returned (.bool true) ∧ J (pre ++ [x.1]) W' ∧ KA W1 W') ∨ (e = .returned (.bool false) ∧ Jx (pre ++ [x.1]) W')) (h0 : J [] W) :
    Calls Try.prog 49 #[.func (.yield l) #[] #[], .pointer (some ⟨kb, 0, none⟩), .pointer (some ⟨nb, 0, none⟩)] W fun e W' => (∃ v, e = .returned v) ∧ (J (choices n k) W' ∨ ∃ q, Jx q W') := by
  have bO := Boxed.new (W.alloc (.cells #[.func (.yield l) #[] #[]] 83)) 84 .nilFunc
  rw [World.size_alloc] at bO
  have bc := bO.cell
  have bf := bO.frozen
  obtain ⟨fv, hfv⟩ : ∃ fv, fv = Value.func (.func 50) #[] #[.pointer (some ⟨kb, 0, none⟩), .pointer (some ⟨W.heap.size, 0, none⟩), .pointer (some ⟨nb, 0, none⟩), .pointer (some ⟨W.heap.size + 1, 0, none⟩)] := ⟨_, rfl⟩
  obtain ⟨W3, hW3⟩ : ∃ W3, W3 = (W.alloc (.cells #[.func (.yield l) #[] #[]] 83)).alloc (.cells #[fv] 84) := ⟨_, rfl⟩
  have bV := Boxed.new (W.alloc (.cells #[.func (.yield l) #[] #[]] 83)) 84 fv
  rw [World.size_alloc] at bV
  have hst : St W.heap.size W W3 := by
    rw [hW3]
    exact ((St.refl W.heap.size W).alloc (Nat.le_refl _) _).alloc (by simp) _
  have hsz3 : W3.heap.size = W.heap.size + 2 := by rw [hW3]; simp
  have hB : Bx W3 k n l kb nb W.heap.size (W.heap.size + 1) := by
    refine ⟨(hst.below.cell (p := ⟨kb, 0, none⟩) hkb).trans ck, (hst.below.cell (p := ⟨nb, 0, none⟩) hnb).trans cn, ?_, ?_⟩
    · rw [hW3]
      have b1 := Boxed.new W 83 (.func (.yield l) #[] #[])
      exact (World.cell?_alloc_lt _ _ ⟨W.heap.size, 0, none⟩ (by simp)).trans b1.cell
    · rw [hW3, ← hfv]
      exact bV.cell
  have cc := (on_all n k l kb nb W.heap.size (W.heap.size + 1) W.heap.size (W.heap.size + 2) hn (by omega) (by omega) (by omega) (by omega) (by omega) J Jx hJ hY k [] 0 none 0 [] W3 (by simp) List.Pairwise.nil (by simp) (by simp) (Nat.zero_le _) hB (OwnQ.nil _ _ _ _) (by omega) (hJ _ _ _ h0 hst)).mono fun _ _ h => h.b
  have co := hB.co
  rw [hW3, hfv] at co cc
  have e0 : ((0 : Nat) : Int) = 0 := rfl
  rw [e0, List.length_nil] at cc
  clear hB hst hY hJ h0 hfv hW3 hsz3 bO bV
  go_enter Try.func49, Try.ntmps49
  go_wp2_with (go_at_call 50; refine cc.mono ?_; clear cc; rintro e w9 ⟨b9, rfl, h9⟩)
  go_end0
  refine ⟨⟨_, rfl⟩, ?_⟩
  rcases h9 with ⟨_, hJ9, _⟩ | ⟨_, q9, hx9⟩
  · exact .inl hJ9
  · exact .inr ⟨q9, hx9⟩
theorem points_each (n k : Nat) (w : World) :
    Calls Try.prog 31 #[.int .i64 (n : Int), .int .i64 (k : Int)] w fun e w' => e = .returned (.func (.func 49) #[] #[.pointer (some ⟨w.heap.size + 1, 0, none⟩), .pointer (some ⟨w.heap.size, 0, none⟩)]) ∧ w' = (w.alloc (.cells #[.int .i64 (n : Int)] 3)).alloc (.cells #[.int .i64 (k : Int)] 3) := by
  go_enter Try.func31, Try.ntmps31
  go_wp2
  go_ret
  exact ⟨rfl, rfl⟩
end Go.Proofs.Ytpbffbhebdcpbaa

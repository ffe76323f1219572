/-
  slices.SortStableFunc over a row of the call's own that holds 0 .. M.
-/
import Derived.Test.YtdidahafbcddeaaStabw
set_option linter.unusedVariables false
namespace Go.Proofs.Ytdidahafbcddeaa
open Go.RowKit Go.Shelf Go.Sort

theorem own_order {M N : Nat} {key : Fin (M + 1) → Nat} {base : Nat} {E : TypeId} (A : Addr) (cap g : Nat) (cb : Array Value) (cf : Fin (M + 1) → Fin (M + 1) → Int) (w : World)
    (hown : Own w base E (.slice (some A) N cap) ((List.finRange (M + 1)).map (encF M))) (hNM : Hid (N = M + 1)) (hN : N ≤ 64) (eg : ∀ args w, (callFunc g args).run Try.prog w = .ok (.enter g args) w)
    (HC : ∀ W, w.grownBy W (some A.block) → ∀ x y : Fin (M + 1), Calls Try.prog g (#[.int .i64 (x.val : Int), .int .i64 (y.val : Int)] ++ cb) W fun e w' => e = .returned (.int .i64 (cf x y)) ∧ ∃ q, w' = W.drewN q)
    (hk : ∀ x y, cf x y < 0 ↔ key x < key y) :
    Calls Try.prog 38 #[.slice (some A) N cap, .func (.func g) #[] cb] w fun e w' =>
      e = .returned (.tuple #[]) ∧ w.grownBy w' (some A.block) ∧ ∃ r : List (Fin (M + 1)), r.Perm (List.finRange (M + 1)) ∧ r.Pairwise (fun x y => keyI key x < keyI key y) ∧ Own w' base E (.slice (some A) N cap) (r.map (encF M)) := by
  obtain ⟨g0, rfl, _, _⟩ := hown.addr
  have hh := holds_own (encF M) hown
  have hsz : (List.finRange (M + 1)).toArray.size = N := by rw [hNM.out]; simp
  have S : SrtW M w g0 0 N (List.finRange (M + 1)).toArray w := ⟨hsz, 0, (putRow_self (encF M) w g0 0 _ hh).symm⟩
  have c := stable_func M g0 N cap g cb cf key (List.finRange (M + 1)).toArray w w ⟨_, hsz, hh⟩ S eg HC hk hNM hN (fun i hi => by
    have := hNM.out
    simp [show i < M + 1 by omega])
  refine c.mono ?_
  rintro e w' ⟨rfl, d', S2, hp, hs⟩
  have hl : d'.toList.length = N := by rw [Array.length_toList, S2.size]
  refine ⟨rfl, S2.grown, d'.toList, ?_, ?_, ?_⟩
  · have hx : ∀ (X : Array (Fin (M + 1))) (m : Nat), X.size = m → X.extract 0 m = X := fun X m h => by subst h; exact Array.extract_size
    have h3 := hp.2.2
    rw [hx _ _ S2.size, hx _ _ hsz] at h3
    simpa using h3
  · have hnd : d'.toList.Nodup := by
      have hx : ∀ (X : Array (Fin (M + 1))) (m : Nat), X.size = m → X.extract 0 m = X := fun X m h => by subst h; exact Array.extract_size
      have h3 := hp.2.2
      rw [hx _ _ S2.size, hx _ _ hsz] at h3
      refine h3.nodup_iff.2 ?_
      simpa using List.nodup_finRange (M + 1)
    rw [List.pairwise_iff_getElem]
    intro i j hi hj hij
    have hi' : i < d'.size := by simpa using hi
    have hj' : j < d'.size := by simpa using hj
    have := hs i j (Nat.zero_le _) hij (by rw [← S2.size]; exact hj')
    rw [getElem!_pos _ j hj', getElem!_pos _ i hi'] at this
    have hne : keyI key (d'.toList[i]) ≠ keyI key (d'.toList[j]) := fun e => by
      have := (List.getElem_inj hnd).1 (keyI_inj e)
      omega
    have e1 : d'.toList[i] = d'[i] := by simp
    have e2 : d'.toList[j] = d'[j] := by simp
    rw [e1, e2] at hne ⊢
    omega
  · obtain ⟨q, e⟩ := S2.eq
    rw [e]
    have := (own_put (encF M) hown d'.toList hl).drewN q
    rwa [Array.toArray_toList] at this
end Go.Proofs.Ytdidahafbcddeaa

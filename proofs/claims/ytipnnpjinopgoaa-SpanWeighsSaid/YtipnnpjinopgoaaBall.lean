import Derived.Test.YtipnnpjinopgoaaWords
set_option linter.unusedVariables false
namespace Go.Proofs.Ytipnnpjinopgoaa
open Go.RowKit

theorem reads_new (w : World) (cs : Array Value) (T : TypeId) (n : Nat) (h : cs.size = n) : Reads (w.alloc (.cells cs T)) (w.heap.size + 1) (some ⟨w.heap.size, 0, none⟩) n cs.toList := by
  refine ⟨by simpa using h, fun _ => ⟨_, rfl, by simp, ?_⟩⟩
  intro j u hu
  have hh : (w.alloc (.cells cs T)).heap[w.heap.size]? = some (.cells cs T (0, 0)) := heap_alloc_new w _
  have := cell_of_row (w.alloc (.cells cs T)) w.heap.size j cs T (0, 0) hh
  have e : (⟨w.heap.size, 0, none⟩ : Addr).add j = ⟨w.heap.size, j, none⟩ := by unfold Addr.add; split <;> simp_all
  rw [e, this]
  simpa using hu
theorem popAux_bits (k x y : Nat) : Lib.popAux k (x ||| y) = Lib.popAux k (x ^^^ y) + Lib.popAux k (x &&& y) := by
  induction k generalizing x y with
  | zero => rfl
  | succ k ih =>
    have h1 : (x ||| y) / 2 = x / 2 ||| y / 2 := Nat.or_div_two
    have h2 : (x ^^^ y) / 2 = x / 2 ^^^ y / 2 := Nat.xor_div_two
    have h3 : (x &&& y) / 2 = x / 2 &&& y / 2 := Nat.and_div_two
    have m : (x ||| y) % 2 = (x ^^^ y) % 2 + (x &&& y) % 2 := by
      have a : ∀ z : Nat, z % 2 = if z.testBit 0 then 1 else 0 := fun z => by
        rw [Nat.testBit_zero]; rcases Nat.mod_two_eq_zero_or_one z with h | h <;> simp [h]
      rw [a (x ||| y), a (x ^^^ y), a (x &&& y), Nat.testBit_or, Nat.testBit_xor, Nat.testBit_and]
      cases x.testBit 0 <;> cases y.testBit 0 <;> rfl
    rw [Lib.popAux, Lib.popAux, Lib.popAux, h1, h2, h3, m, ih]
    omega
theorem pop_bits (x y : Nat) : (pop (x ||| y) : Int) - pop (x &&& y) = pop (x ^^^ y) := by
  have := popAux_bits 32 x y
  unfold pop; omega

def distRes (nb : Int) (x y : Nat) : Int × Int := if bitsErr nb [x, y] = 0 then ((pop (x ^^^ y) : Nat), 0) else (0, bitsErr nb [x, y])
theorem lt_of_list2 {x y : Nat} (hx : x < 4294967296) (hy : y < 4294967296) : ∀ z ∈ [x, y], z < 4294967296 := by
  intro z hz; simp at hz; rcases hz with rfl | rfl <;> assumption

end Go.Proofs.Ytipnnpjinopgoaa

/-
  turn.Back: the closure, bytes.Equal, the walk.
-/
import Derived.Test.YtdidahafbcddeaaTuu
import Derived.Laws.IdiomStrings
set_option linter.unusedVariables false
namespace Go.Proofs.Ytdidahafbcddeaa
open Go.RowKit Go.Shelf Go.Sort

theorem back_less (b2 n c x y u v : Nat) (ad : Addr) (W : World) (hc : W.cell? ⟨b2, 0, none⟩ = some (.slice (some ad) n c)) (cx : W.cell? (ad.add x) = some (.int .u8 (u : Int))) (cy : W.cell? (ad.add y) = some (.int .u8 (v : Int))) (hx : x < n) (hy : y < n) (hn : n ≤ 64) :
    Calls Try.prog 43 #[.int .i64 (x : Int), .int .i64 (y : Int), .pointer (some ⟨b2, 0, none⟩)] W fun e w' => e = .returned (.int .i64 (cmpN u v)) ∧ ∃ q, w' = W.drewN q := by
  have cb := Lib.hid (fun q => cmp_byte u v (W.drewN q))
  have i1 : (x : Int) < (n : Int) := by omega
  have i2 : (y : Int) < (n : Int) := by omega
  generalize cmpN u v = r at *
  go_enter Try.func43, Try.ntmps43
  go_wp2
  go_quiet ((go_at_call 44; exact quietR (cb.out _)))
  go_wp2
  go_ret
  exact ⟨rfl, _, rfl⟩
theorem conv_bytesT {w : World} {B n : Nat} {ad : Addr} {a : List Nat} (c : Nat) (h : Reads w B (some ad) n (vn .u8 a)) (hB : Byt a) :
    (convert 42 9 (.slice (some ad) n c)).run Try.prog w = .ok (.string ⟨(a.map UInt8.ofNat).toArray⟩) w := by
  have hl := h.nat_len
  have := run_convert_bytes_back (P := Try.prog) w 42 9 5 ad c (a.map UInt8.ofNat) Try.underlying42 Try.underlying5 Try.underlying9 (fun j hj => by
    have hj2 : j < a.length := by simpa using hj
    obtain ⟨ad', e, _, hc⟩ := h.cells (by omega)
    injection e with e
    subst e
    have h1 := hc j (.int .u8 (a[j] : Int)) (by rw [List.getElem?_map, List.getElem?_eq_getElem hj2]; rfl)
    rw [h1]
    have h2 := hB a[j] (List.getElem_mem hj2)
    simp only [List.getElem_map, UInt8.toNat_ofNat']
    rw [Nat.mod_eq_of_lt (by omega)])
  rw [List.length_map, hl] at this
  exact this
theorem bytes_str {a b : List Nat} (ha : Byt a) (hb : Byt b) : (a.map UInt8.ofNat == b.map UInt8.ofNat) = decide (a = b) := by
  rw [Bool.eq_iff_iff, beq_iff_eq]
  simp only [decide_eq_true_eq]
  constructor
  · intro e
    have hl := congrArg List.length e
    simp only [List.length_map] at hl
    apply List.ext_getElem hl
    intro i h1 h2
    have e2 := congrArg (fun l => l[i]?) e
    simp only [List.getElem?_map, List.getElem?_eq_getElem h1, List.getElem?_eq_getElem h2, Option.map_some] at e2
    injection e2 with e2
    have e3 := congrArg UInt8.toNat e2
    simp only [UInt8.toNat_ofNat'] at e3
    have q1 := ha a[i] (List.getElem_mem h1)
    have q2 := hb b[i] (List.getElem_mem h2)
    rwa [Nat.mod_eq_of_lt (by omega), Nat.mod_eq_of_lt (by omega)] at e3
  · intro e; rw [e]
set_option maxHeartbeats 400000 in
theorem bytes_EqualT (ad ad' : Addr) (n n' c c' : Nat) (a b : List Nat) (R : Bool) (w : World) {B B' : Nat} (h : Reads w B (some ad) n (vn .u8 a)) (h' : Reads w B' (some ad') n' (vn .u8 b)) (ha : Byt a) (hb : Byt b) (hR : Hid (decide (a = b) = R)) :
    Calls Try.prog 45 #[.slice (some ad) n c, .slice (some ad') n' c'] w (Ret w (.bool R)) := by
  have h1 := conv_bytesT c h ha
  have h2 := conv_bytesT c' h' hb
  have h3 := bytes_str ha hb
  rw [hR.out] at h3
  have H3 := Lib.hid h3
  clear h h' h3
  go_enter Try.func45, Try.ntmps45
  go_wp2
  go_ret
  refine ⟨?_, rfl⟩
  rw [← H3.out]
  rfl
end Go.Proofs.Ytdidahafbcddeaa

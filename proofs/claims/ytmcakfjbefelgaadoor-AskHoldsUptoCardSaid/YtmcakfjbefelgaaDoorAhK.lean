/-
  THE LAW AskHolds, walked whole (own work).
-/
import Derived.Test.YtmcakfjbefelgaaDoorAhJ
import Derived.Test.YtmcakfjbefelgaaDoorAhC2
set_option linter.unusedSimpArgs false
set_option linter.unusedVariables false
set_option maxRecDepth 100000
set_option maxHeartbeats 4000000
namespace Go.Ev.Tryd.Hd
open Go Go.Ev Go.Proofs
variable {mx : Int}
theorem law4_ok (a b : Finding) (c : Cond) (op : Int) (ha : small a) (hb : small b) (ha2 : small2 a) (hb2 : small2 b) (hc : wt c ≤ 4294967200) {k : Nat}
    (hk : 10 * wt c + a.bytes.length + a.text.size + b.text.size + a.via.length + a.at_.length + b.at_.length + 400 < k) :
    evF Tryd.prog (Γ mx) (k + 1) 4 [.agg (findE.f a), .agg (findE.f b), .agg (condE.f c), .int .i64 op] [] = some (.bool true, []) := by
  obtain ⟨k, rfl⟩ : ∃ j, k = j + 1 := ⟨k - 1, by omega⟩
  have c0 : evF Tryd.prog (Γ mx) (k + 1) 9 [] [] = some (.bool true, []) := evF_mono (by omega) 9 [] [] _ (asked0 mx)
  have c1 := holds_ok (mx := mx) a ha (wt c) c (Nat.le_refl _) hc (k := k) (by omega)
  have c2 := true_ok (mx := mx) a ha (wt c) c (Nat.le_refl _) hc (k := k) (by omega)
  have c3 := linked_ok (mx := mx) a b op ha hb ha2 hb2 (k := k) (by omega)
  have c4 := tied_ok (mx := mx) a b op ha hb ha2 hb2 (k := k) (by omega)
  rw [b4 (fun _ _ => rfl) _ _ (by simp)]
  have hA := findE_f a
  have hB := findE_f b
  have hC := condE_f c
  rw [hA, hC] at c1 c2
  rw [hA, hB] at c3 c4
  rw [hA, hB, hC]
  generalize holdsC a c = h at *
  generalize linkedF a b op = l at *
  simp -implicitDefEqProofs [c0, c1, c2, c3, c4]
end Go.Ev.Tryd.Hd

/-
  THE CLOCK SEAT: the law ClockChecks returns true at all arguments (own work).
-/
import Derived.Test.YtflmadkbppnmcaaCkI
import Derived.Test.YtflmadkbppnmcaaCkK2
set_option linter.unusedSimpArgs false
set_option linter.unusedVariables false
set_option maxRecDepth 100000
set_option maxHeartbeats 4000000
namespace Go.Ev.Try
open Go Go.Ev Go.Proofs

theorem checks_ok (l : List Event) (ties : List Tie) (z z2 : Bool) (N : Nat) (hN : N ≤ 9223372036854775000) (hz : ∀ x ∈ l, x.clock.size ≤ N) (hl : l.length ≤ 8796093022206) (ht : ties.length ≤ 8796093022206) {k : Nat} (hk : N + l.length + 300 < k) :
    evF Try.prog Γ (k + 1) 3 [roV z l.length (flatE eventE l), roV z2 ties.length (flatE tieE ties)] [] = some (.bool true, []) := by
  obtain ⟨k, rfl⟩ : ∃ j, k = j + 1 := ⟨k - 1, by omega⟩
  have c1 := timed_ok (k := k) (by omega)
  have c2 := clocks_ok l z (by omega) (k := k) (by omega)
  rw [names_eq] at c2
  have c3 := clocksOf_ok l z hl (k := k) (by omega)
  have hlen : (insF (clks l)).length ≤ l.length := Nat.le_trans (insF_len _) (by simp)
  have c4 := equal_strs (insF (clks l)) (insF (clks l)) true true (by omega) (k := k) (by omega)
  have c5 := check_ok l ties z z2 hl ht (k := k) (by omega)
  have c6 := fault_ok l ties z z2 N hN hz hl ht (k := k) (by omega)
  rw [b3 (fun _ _ => rfl) _ _ (by simp)]
  cases hc : (insF (clks l)).length with
  | zero =>
    have hnil : insF (clks l) = [] := List.length_eq_zero_iff.1 hc
    rw [hnil] at c2 c3 c4
    simp at c2 c3 c4
    simp -implicitDefEqProofs [c1, c2, c3, c4, c5, c6]
  | succ c =>
    rw [hc] at c2 c3 c4
    simp at c2 c3 c4
    have t1 : List.take (c + 1) (flatE strE (insF (clks l)) ++ flatE strE (List.replicate (l.length - (c + 1)) ByteArray.empty)) = flatE strE (insF (clks l)) := by
      rw [List.take_append_of_le_length (by simp [hc]), List.take_of_length_le (by simp [hc])]
    have t2 : List.take (c + 1) (flatE strE (insF (clks l))) = flatE strE (insF (clks l)) := by rw [List.take_of_length_le (by simp [hc])]
    simp -implicitDefEqProofs [c1, c2, c3, c4, c5, c6, t1, t2]
end Go.Ev.Try

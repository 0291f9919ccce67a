/-
  THE CLOCK SEAT: the fact 'timed' (own work).
-/
import Derived.Test.YtflmadkbppnmcaaCkK
set_option linter.unusedSimpArgs false
set_option linter.unusedVariables false
set_option maxRecDepth 100000
set_option maxHeartbeats 8000000
namespace Go.Ev.Try
open Go Go.Ev Go.Proofs
theorem guard44 : Try.prog.eqGuardType Try.prog.depth 44 = false := by kernel_rfl
theorem bld44 (x y : Int) : buildV Try.prog 44 [(0, V.int .i64 x), (1, V.int .i64 y)] = some (.agg [.int .i64 x, .int .i64 y]) := by kernel_rfl
theorem eqI_int (k : IntKind) (a b : Int) : eqI (.int k a) (.int k b) = some (decide (a = b)) := by
  show (if k = k then some (a == b) else none) = _
  rw [if_pos rfl]; by_cases h : a = b <;> simp [h]
theorem eqv44 (a b c d : Int) : eqV Try.prog 10000 44 (.agg [.int .i64 a, .int .i64 b]) (.agg [.int .i64 c, .int .i64 d]) = some (decide (a = c ∧ b = d)) := by
  rw [show (10000 : Nat) = 9998 + 1 + 1 from rfl]
  by_cases h1 : a = c <;> by_cases h2 : b = d <;> simp [eqV, eqElems, aggOf, partV, eqI_int, h1, h2]
theorem eq44 (a b c d : Int) : evBin Try.prog .eql 44 (.agg [.int .i64 a, .int .i64 b]) (.agg [.int .i64 c, .int .i64 d]) = some (.bool (decide (a = c ∧ b = d))) := by
  simp only [evBin, noNumV, aggOf, guard44, Option.isNone_some, Bool.false_or, Bool.not_false, Bool.and_self, if_true, eqv44, Option.map_some]
theorem timedG (call : CallF) (n : Nat) (x y : Int) (hx : x = 10) (hy : y = 12) (c : call 18 [.ros 1 ev1, .ros 1 ti1] [] = some (.tup [.sl 0 0 1 2, .int .i64 0], [some (.cells [.int .i64 x, .int .i64 y] false)])) :
    bodyEnd Try.prog [.tmp 0] 0 (evCode Try.prog Γ call n 8 0 (cAt [] B8) (mkL 25 V.undef (enumV 0 [])) []) = some (.bool true, []) := by
  unfold ev1 ti1 at c
  simp -implicitDefEqProofs [c, bld44, eq44, hx, hy]
theorem timed_ok {k : Nat} (hk : 100 < k) : evF Try.prog Γ (k + 1) 8 [] [] = some (.bool true, []) := by
  obtain ⟨k, rfl⟩ : ∃ j, k = j + 59 + 1 := ⟨k - 60, by omega⟩
  exact (b8 (fun _ _ => rfl) _ _ (by simp)).trans (timedG _ _ 10 12 rfl rfl solve3)
end Go.Ev.Try

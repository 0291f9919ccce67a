/-
  THE CLOCK SEAT: the law ClockSolves returns true at all arguments (own work).
-/
import Derived.Test.YtflmadkbppnmcaaCkBd
import Derived.Test.YtflmadkbppnmcaaCkBf
import Derived.Test.YtflmadkbppnmcaaCkI
set_option linter.unusedSimpArgs false
set_option linter.unusedVariables false
set_option maxRecDepth 100000
set_option maxHeartbeats 4000000
namespace Go.Ev.Try
open Go Go.Ev Go.Proofs

theorem ivs_add (d : Mat) (a b c : Nat) : ivs d a (b + c) = ivs d a b ++ ivs d (a + b) c := by
  unfold ivs
  rw [List.range_add, List.map_append, List.map_map]
  congr 1
  refine List.map_congr_left fun i _ => ?_
  simp [Function.comp, Nat.add_assoc]
end Go.Ev.Try

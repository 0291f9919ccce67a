/-
  THE LINE SEAT: Crowd, lined (own work).
-/
import Derived.Test.YthmpoblblgohcaaLineF
set_option linter.unusedSimpArgs false
set_option linter.unusedVariables false
set_option maxRecDepth 100000
set_option maxHeartbeats 4000000
namespace Go.Ev.Try
open Go Go.Ev Go.Proofs

/-- How many marks stand over a point. -/
def over (l : List Mark) (x : Int) : Nat := l.countP fun m => decide (m.low ≤ x) && decide (x ≤ m.high)
end Go.Ev.Try

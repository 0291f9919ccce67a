/-
  THE CLOCK SEAT: Equal and Concat of numbers, Equal of pairs (own work).
-/
import Derived.Test.YtflmadkbppnmcaaCkZ
import Derived.Test.YtflmadkbppnmcaaCkC4
import Derived.Test.YtflmadkbppnmcaaCkK2
set_option linter.unusedSimpArgs false
set_option linter.unusedVariables false
set_option maxRecDepth 100000
set_option maxHeartbeats 4000000
namespace Go.Ev.Try
open Go Go.Ev Go.Proofs

/-! ### slices.Concat -/
end Go.Ev.Try

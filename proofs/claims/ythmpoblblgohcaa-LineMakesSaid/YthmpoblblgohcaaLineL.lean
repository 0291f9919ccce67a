/-
  THE LINE SEAT: chosen, Maybe, Surely (own work).
-/
import Derived.Test.YthmpoblblgohcaaLineH
import Derived.Test.YthmpoblblgohcaaLineC1
set_option linter.unusedSimpArgs false
set_option linter.unusedVariables false
set_option maxRecDepth 100000
set_option maxHeartbeats 4000000
namespace Go.Ev.Try
open Go Go.Ev Go.Proofs

end Go.Ev.Try

/-
  THE CLOCK DOOR SEAT (printed by wip/tools/port.py): slices.Delete of one number; the culprits, plain (own work).
-/
import Derived.Test.YtflmadkbppnmcaaDoorDkBf
set_option linter.unusedSimpArgs false
set_option linter.unusedVariables false
set_option maxRecDepth 100000
set_option maxHeartbeats 4000000
namespace Go.Ev.Tryd
open Go Go.Ev Go.Proofs

end Go.Ev.Tryd

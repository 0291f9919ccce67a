/-
  THE CLOCK DOOR SEAT (printed by wip/tools/port.py): Equal and Concat of numbers, Equal of pairs (own work).
-/
import Derived.Test.YtflmadkbppnmcaaDoorDkZ
import Derived.Test.YtflmadkbppnmcaaDoorDkC4
set_option linter.unusedSimpArgs false
set_option linter.unusedVariables false
set_option maxRecDepth 100000
set_option maxHeartbeats 4000000
namespace Go.Ev.Tryd
open Go Go.Ev Go.Proofs

/-! ### slices.Concat -/
theorem sub00 : subI .i64 0 0 = 0 := by rw [subI_eq]; exact wrap_i64 (by omega) (by omega)
end Go.Ev.Tryd

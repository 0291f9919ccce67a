/-
  THE CLOCK DOOR SEAT (printed by wip/tools/port.py): One (own work).
-/
import Derived.Test.YtflmadkbppnmcaaDoorDkY
set_option linter.unusedSimpArgs false
set_option linter.unusedVariables false
set_option maxRecDepth 100000
set_option maxHeartbeats 4000000
namespace Go.Ev.Tryd
open Go Go.Ev Go.Proofs

def fsts (l : List (Int × Int)) : List Int := l.map (·.1)
@[simp] theorem fsts_length (l : List (Int × Int)) : (fsts l).length = l.length := by simp [fsts]
end Go.Ev.Tryd

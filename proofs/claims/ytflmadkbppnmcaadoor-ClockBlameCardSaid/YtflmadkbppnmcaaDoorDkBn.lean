/-
  THE CLOCK DOOR SEAT (printed by wip/tools/port.py): Before, and the reference's Earlier (own work).
-/
import Derived.Test.YtflmadkbppnmcaaDoorDkZ
set_option linter.unusedSimpArgs false
set_option linter.unusedVariables false
set_option maxRecDepth 100000
set_option maxHeartbeats 4000000
namespace Go.Ev.Tryd
open Go Go.Ev Go.Proofs

def outside (l : List Event) (a b : Int) : Prop := a < 0 ∨ b < 0 ∨ (l.length : Int) ≤ a ∨ (l.length : Int) ≤ b
instance (l : List Event) (a b : Int) : Decidable (outside l a b) := by unfold outside; infer_instance
end Go.Ev.Tryd

/-
  THE CLOCK DOOR SEAT: ClockOrder's walk (own work).
-/
import Derived.Test.YtflmadkbppnmcaaDoorDkR
import Derived.Test.YtflmadkbppnmcaaDoorDkC7
import Derived.Test.YtflmadkbppnmcaaDoorDkBn
set_option linter.unusedSimpArgs false
set_option linter.unusedVariables false
set_option maxRecDepth 100000
set_option maxHeartbeats 4000000
namespace Go.Ev.Tryd
open Go Go.Ev Go.Proofs

theorem roV_nil : roV true 0 [] = .nils := rfl

theorem answer_made {l : List Event} {ties : List Tie} (h : faultC l ties = 0) (f : Mat → List (Int × Int)) :
    answer l ties f = match closed (nV l) (bds l ties) with
      | none => ([], 17)
      | some d => (f d, 0) := by
  unfold answer
  rw [if_pos h]
  cases closed (nV l) (bds l ties) <;> rfl

end Go.Ev.Tryd

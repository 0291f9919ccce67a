/-
  THE REDACT SEAT: exhibits that cannot be joined; blacked (own work).
-/
import Derived.Test.YtnalmdnfoicokaaRdO
import Derived.Test.YtnalmdnfoicokaaRdJ2
set_option linter.unusedSimpArgs false
set_option linter.unusedVariables false
set_option maxRecDepth 100000
set_option maxHeartbeats 4000000
namespace Go.Ev.Try
open Go Go.Ev Go.Proofs

/-! ### blacked -/
def twoL : List Int := [97, 98] ++ zeros 126
end Go.Ev.Try

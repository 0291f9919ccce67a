/-
  THE REDACT SEAT: an image (own work).
-/
import Derived.Test.YtnalmdnfoicokaaRdF
set_option linter.unusedSimpArgs false
set_option linter.unusedVariables false
set_option maxRecDepth 100000
set_option maxHeartbeats 4000000
namespace Go.Ev.Try
open Go Go.Ev Go.Proofs

def zeros (n : Nat) : List Int := List.replicate n 0
@[simp] theorem zeros_length (n : Nat) : (zeros n).length = n := by simp [zeros]

end Go.Ev.Try

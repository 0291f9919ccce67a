/-
  THE CLOCK SEAT: Ranges without events, by computation (own work).
-/
import Derived.Test.YtflmadkbppnmcaaCkC3
import Derived.KernelRfl
set_option linter.unusedVariables false
set_option maxRecDepth 100000
namespace Go.Ev.Try
open Go Go.Ev Go.Proofs
theorem ranges_nil (z z2 : Bool) : evF Try.prog Γ 60 15 [roV z 0 [], roV z2 0 []] [] = some (.tup [.nils, .bool true], [none]) := by
  cases z <;> cases z2 <;> kernel_rfl
end Go.Ev.Try

/-
  THE CLOCK SEAT: solved without events, by computation (own work).
-/
import Derived.Test.YtflmadkbppnmcaaCkC2
import Derived.KernelRfl
set_option linter.unusedVariables false
set_option maxRecDepth 100000
namespace Go.Ev.Try
open Go Go.Ev Go.Proofs
theorem solved_nil (z z2 : Bool) : evF Try.prog Γ 60 36 [roV z 0 [], roV z2 0 []] [] = some (.tup [.sl 0 0 1 1, .bool true], [some (.cells [.sl 1 0 1 1] true), some (.cells [.int .i64 0] true)]) := by
  cases z <;> cases z2 <;> kernel_rfl
end Go.Ev.Try

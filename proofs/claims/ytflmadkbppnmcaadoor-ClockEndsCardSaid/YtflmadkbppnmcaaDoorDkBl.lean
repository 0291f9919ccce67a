/-
  THE CLOCK DOOR SEAT (printed by wip/tools/port.py): Holds without events, by computation (own work).
-/
import Derived.Test.YtflmadkbppnmcaaDoorDkC5
import Derived.KernelRfl
set_option linter.unusedVariables false
set_option maxRecDepth 100000
namespace Go.Ev.Tryd
open Go Go.Ev Go.Proofs
theorem holds_nil (z z2 ze zt : Bool) : evF Tryd.prog Γ 60 18 [roV z 0 [], roV z2 0 [], roV ze 0 [], roV zt 0 []] [] = some (.tup [.bool true, .int .i64 0], []) := by
  cases z <;> cases z2 <;> cases ze <;> cases zt <;> kernel_rfl
end Go.Ev.Tryd

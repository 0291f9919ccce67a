/-
  THE LAW AskHolds, walked (own work).
-/
import Derived.Test.YtmcakfjbefelgaaDoorAhI
import Derived.KernelRfl
set_option linter.unusedSimpArgs false
set_option linter.unusedVariables false
set_option maxRecDepth 100000
set_option maxHeartbeats 4000000
namespace Go.Ev.Tryd.Hd
open Go Go.Ev Go.Proofs
variable {mx : Int}
theorem asked0 (mx : Int) : evF Tryd.prog (Γ mx) 70 9 [] [] = some (.bool true, []) := by kernel_rfl
end Go.Ev.Tryd.Hd

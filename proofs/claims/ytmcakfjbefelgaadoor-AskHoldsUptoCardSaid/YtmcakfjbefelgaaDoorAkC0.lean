/-
  CODE BY NAMES, printed by wip/tools/codes.py (own work).
-/
import Derived.Test.YtmcakfjbefelgaaDoorAkG
set_option maxRecDepth 100000
set_option linter.unusedVariables false
namespace Go.Ev.Tryd
open Go Go.Ev Go.Proofs
section
variable {P : Program} {Γ : Env} {call : CallF} {n f m : Nat}

end
end Go.Ev.Tryd

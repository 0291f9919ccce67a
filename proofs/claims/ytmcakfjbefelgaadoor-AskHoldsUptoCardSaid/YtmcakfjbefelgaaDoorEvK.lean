/-
  SORTED LISTS, EACH ELEMENT ONCE, in a strict total order (own work, plain).
-/
import Derived.Test.YtmcakfjbefelgaaDoorEvH
set_option linter.unusedSimpArgs false
set_option linter.unusedVariables false
namespace Go.Ev.Ord
open Go Go.Ev
variable {α : Type} {lt : α → α → Bool}
/-! ### Strictly sorted lists -/
variable [DecidableEq α]
/-! ### Neighbours alike struck -/
end Go.Ev.Ord

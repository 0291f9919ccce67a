/-
  THE ASK SEAT: strings in quotation marks (own work).
-/
import Derived.Test.YtmcakfjbefelgaaDoorAkB
import Derived.Laws.RangeAny
import Derived.Laws.RangeString
set_option linter.unusedSimpArgs false
set_option linter.unusedVariables false
set_option maxRecDepth 100000
set_option maxHeartbeats 4000000
namespace Go.Ev.Tryd
open Go Go.Ev Go.Proofs

/-- A byte that can stand in quotation marks. -/
def goodQ (c : Int) : Bool := decide (32 ≤ c) && decide (c ≤ 126) && !decide (c = 34)
def allQ (s : ByteArray) : Bool := (bytesI s).all goodQ
def quoted (s : ByteArray) : Bool := decide (0 < s.size) && decide (s.size ≤ 40) && allQ s

/-! ### The reference's printable -/
/-! ### quoted -/
end Go.Ev.Tryd

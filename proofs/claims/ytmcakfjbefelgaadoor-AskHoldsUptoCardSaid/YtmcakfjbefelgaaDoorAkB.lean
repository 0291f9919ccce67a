/-
  THE ASK SEAT: names (own work).
-/
import Derived.Test.YtmcakfjbefelgaaDoorAkC0
set_option linter.unusedSimpArgs false
set_option linter.unusedVariables false
set_option maxRecDepth 100000
set_option maxHeartbeats 4000000
namespace Go.Ev.Tryd
open Go Go.Ev Go.Proofs

def letter (c : Int) : Bool := !((decide (c < 97) || decide (122 < c)) && (decide (c < 48) || decide (57 < c)) && !decide (c = 45))
def named (s : ByteArray) : Bool := match bytesI s with
  | [] => false
  | c :: l => decide (97 ≤ c) && decide (c ≤ 122) && decide (s.size ≤ 12) && (c :: l).all letter

/-! ### The reference's Word -/
def lower (c : Int) : Bool := decide (97 ≤ c) && decide (c ≤ 122)
theorem conv_bytes (H : Heap) (s : ByteArray) : convertV Tryd.prog H 9 35 (.str s) = some (.ros s.size (flatE (intE .u8) (bytesI s)), H) := by
  simp [convertV]
end Go.Ev.Tryd

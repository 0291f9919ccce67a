/-
  THE ASK SEAT: the fact about questions, by the kernel (own work).
-/
import Derived.Test.YtmcakfjbefelgaaDoorAkG
import Derived.KernelRfl
set_option maxRecDepth 100000
namespace Go.Ev.Tryd
open Go Go.Ev Go.Proofs
theorem asked0 : evF Tryd.prog Γ 70 9 [] [] = some (.bool true, []) := by kernel_rfl
end Go.Ev.Tryd

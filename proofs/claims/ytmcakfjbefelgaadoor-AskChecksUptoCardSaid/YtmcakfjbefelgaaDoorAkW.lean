/-
  THE ASK SEAT: the oracles are right (own work).
-/
import Derived.Test.YtmcakfjbefelgaaDoorAkG
import Derived.WalkKit
set_option linter.unusedSimpArgs false
set_option linter.unusedVariables false
set_option maxRecDepth 100000
namespace Go.Ev.Tryd
open Go Go.Ev Go.Proofs
theorem orcOk : CallOk Tryd.prog Γ Γ.orc := fun f args H r hr w0 B e w vs hg hs ha => by
  have hr' : askOrc f args H = some r := hr
  unfold askOrc at hr'
  split at hr'
  · rename_i hf
    subst hf
    exact countOrc_ok Tryd.func92 (by kernel_rfl) (by kernel_rfl) (by kernel_rfl) (by kernel_rfl) hr' hs ha
  · split at hr'
    · rename_i hf
      subst hf
      exact idxByteOrc_ok Tryd.func98 (by kernel_rfl) (by kernel_rfl) (by kernel_rfl) (by kernel_rfl) hr' hs ha
    · cases hr'
end Go.Ev.Tryd

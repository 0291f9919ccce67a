/-
  THE REDACT SEAT: what is made of raw numbers: spans, an image (own work).
-/
import Derived.Test.YtnalmdnfoicokaaRdA
set_option linter.unusedSimpArgs false
set_option linter.unusedVariables false
set_option maxRecDepth 100000
set_option maxHeartbeats 4000000
namespace Go.Ev.Try
open Go Go.Ev Go.Proofs

/-- Spans within a size. -/
def Within (size : Nat) (S : List Span) : Prop := ∀ s ∈ S, 0 ≤ s.off ∧ 0 ≤ s.len ∧ s.off + s.len ≤ size
/-! ### data -/
end Go.Ev.Try

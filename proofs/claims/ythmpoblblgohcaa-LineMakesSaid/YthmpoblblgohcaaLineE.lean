/-
  THE LINE SEAT: marks (own work).
-/
import Derived.Test.YthmpoblblgohcaaLineD
set_option linter.unusedSimpArgs false
set_option linter.unusedVariables false
set_option maxRecDepth 100000
set_option maxHeartbeats 4000000
namespace Go.Ev.Try
open Go Go.Ev Go.Proofs

/-- What marks are like: numbered, and in bounds. -/
def Made (l : List Mark) : Prop := ∀ (i : Nat) (h : i < l.length), l[i].id = i ∧ -10 ≤ l[i].low ∧ l[i].low ≤ 29 ∧ l[i].low ≤ l[i].high ∧ l[i].high ≤ 37
theorem Made.snoc {l : List Mark} (h : Made l) (x : Mark) (hx : x.id = l.length ∧ -10 ≤ x.low ∧ x.low ≤ 29 ∧ x.low ≤ x.high ∧ x.high ≤ 37) : Made (l ++ [x]) := by
  intro i hi
  rcases Nat.lt_or_ge i l.length with hl | hg
  · rw [List.getElem_append_left hl]; exact h i hl
  · have : i = l.length := by simp at hi; omega
    subst this
    rw [List.getElem_append_right (Nat.le_refl _)]
    simpa using hx
end Go.Ev.Try

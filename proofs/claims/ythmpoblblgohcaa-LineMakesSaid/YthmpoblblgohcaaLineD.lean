/-
  THE LINE SEAT: Clone, Check, Of (own work).
-/
import Derived.Test.YthmpoblblgohcaaLineC
set_option linter.unusedSimpArgs false
set_option linter.unusedVariables false
set_option maxRecDepth 100000
set_option maxHeartbeats 4000000
namespace Go.Ev.Try
open Go Go.Ev Go.Proofs

theorem clone_ok (l : List Mark) (hl : l.length ≤ 5864062014805) {k : Nat} :
    evF Try.prog Γ (k + 1) 32 [roV true l.length (flatE markE l)] [] = some (ownV true 0 0 l.length 3, [ownB true l.length (flatE markE l)]) := by
  rw [b32 (fun _ _ => rfl) _ _ (by simp)]
  cases hn : l.length with
  | zero => simp -implicitDefEqProofs
  | succ n =>
    have h1 : (n + 1) * 24 ≤ 140737488355328 := by omega
    have h2 : List.take ((n + 1) * 3) (flatE markE l) = flatE markE l := by rw [List.take_of_length_le]; simp [hn]
    simp -implicitDefEqProofs [hn, h1, h2]

/-- A right timeline. -/
structure Valid (l : List Mark) : Prop where
  len : l.length ≤ 400
  range : ∀ m ∈ l, -4294967295 ≤ m.low ∧ m.high ≤ 4294967295 ∧ m.low ≤ m.high
  asc : ∀ (i : Nat) (h : i + 1 < l.length), less l[i] l[i + 1] = true

theorem sort_nil {k : Nat} (hk : 100 < k) : evF Try.prog Γ (k + 1) 33 [.nils, .fn (.func 25) [] []] [] = some (.tup [], []) := by
  have h : evF Try.prog Γ 20 33 [.nils, .fn (.func 25) [] []] [] = some (.tup [], []) := by kernel_rfl
  exact evF_mono (by omega) _ _ _ _ h
theorem compact_nil {k : Nat} (hk : 100 < k) : evF Try.prog Γ (k + 1) 34 [.nils] [] = some (.nils, [none]) := by
  have h : evF Try.prog Γ 20 34 [.nils] [] = some (.nils, [none]) := by kernel_rfl
  exact evF_mono (by omega) _ _ _ _ h

end Go.Ev.Try

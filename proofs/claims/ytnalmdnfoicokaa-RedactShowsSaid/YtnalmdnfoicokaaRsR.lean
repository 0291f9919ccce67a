/-
  THE REDACT SEAT: Concat of spans in one statement (own work).
-/
import Derived.Test.YtnalmdnfoicokaaRdT
set_option linter.unusedSimpArgs false
set_option linter.unusedVariables false
set_option maxRecDepth 100000
set_option maxHeartbeats 1000000
namespace Go.Ev.Try
open Go Go.Ev Go.Proofs

theorem ownV_pos (id off n sz : Nat) (h : 0 < n) : ownV true id off n sz = .sl id off n sz := by
  obtain ⟨m, rfl⟩ : ∃ m, n = m + 1 := ⟨n - 1, by omega⟩
  simp
theorem ownB_pos (n : Nat) (cs : List V) (h : 0 < n) : ownB true n cs = some (.cells cs false) := by
  obtain ⟨m, rfl⟩ : ∃ m, n = m + 1 := ⟨n - 1, by omega⟩
  simp
theorem cat_any (a b : List Span) (ha : a.length ≤ 100000) (hb : b.length ≤ 100000) (za zb : Bool) {k : Nat} (hk : 20 < k) :
    evF Try.prog Γ (k + 1) 25 [.ros 2 [roV za a.length (flatE spanE a), roV zb b.length (flatE spanE b)]] [] = some (ownV true 0 0 (a.length + b.length) 2, [ownB true (a.length + b.length) (flatE spanE (a ++ b))]) := by
  by_cases h1 : a = []
  · subst h1
    by_cases h2 : b = []
    · subst h2
      exact cat_nn za zb hk
    · have hp := List.length_pos_iff.2 h2
      rw [List.nil_append, List.length_nil, Nat.zero_add, ownV_pos _ _ _ _ hp, ownB_pos _ _ hp]
      exact cat_nb b hp hb za zb hk
  · have hp := List.length_pos_iff.2 h1
    by_cases h2 : b = []
    · subst h2
      rw [List.append_nil, ownV_pos _ _ _ _ (show 0 < a.length + ([] : List Span).length by simpa using hp), ownB_pos _ _ (show 0 < a.length + ([] : List Span).length by simpa using hp)]
      exact cat_an a hp ha za zb hk
    · have hp2 := List.length_pos_iff.2 h2
      rw [ownV_pos _ _ _ _ (by omega), ownB_pos _ _ (by omega)]
      exact cat_ab a hp ha b hp2 hb za zb hk
end Go.Ev.Try

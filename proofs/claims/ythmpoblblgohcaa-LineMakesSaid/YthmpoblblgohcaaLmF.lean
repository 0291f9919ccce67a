/-
  THE LINE SEAT: the law LineMakes, its walk (own work).
-/
import Derived.Test.YthmpoblblgohcaaLmE
set_option linter.unusedSimpArgs false
set_option linter.unusedVariables false
set_option maxRecDepth 100000
set_option maxHeartbeats 4000000
namespace Go.Ev.Try
open Go Go.Ev Go.Proofs

theorem lined22_ok {k : Nat} (hk : 2030 < k) : evF Try.prog Γ (k + 1) 22 [] [] = some (.bool true, []) := by
  obtain ⟨k, rfl⟩ : ∃ j, k = j + 1 := ⟨k - 1, by omega⟩
  have hi : lineM [⟨2, 5, 6⟩, ⟨1, 1, 2⟩] = [⟨1, 1, 2⟩, ⟨2, 5, 6⟩] := by decide
  have c := of_some [⟨2, 5, 6⟩, ⟨1, 1, 2⟩] false (by decide) (k := k) (by simp only [List.length_cons, List.length_nil]; omega) (by decide) 0 (by rw [hi]; decide)
  rw [hi] at c
  simp [markE_f] at c
  rw [b22 (fun _ _ => rfl) _ _ (by simp)]
  simp -implicitDefEqProofs [c]

/-! ### Two marks -/
theorem lineM_two (a b : Mark) : lineM [a, b] = if a = b then [a] else if less a b = true then [a, b] else [b, a] := by
  by_cases h : a = b
  · subst h
    have h0 : insL ([] : List Mark) 0 a = [a] := rfl
    simp [lineM, Ord.insF, Ord.insS, h0, less_irrefl]
  · rw [if_neg h]
    cases h1 : less a b with
    | true => simp [lineM, Ord.insF, Ord.insS, h1, insL]
    | false =>
      simp [lineM, Ord.insF, Ord.insS, h1, insL, h]
      
/-- What Cmp and Lined say of two marks. -/
theorem two_facts (a b : Mark) : (cmpM a b = -1 ∧ cmpM b a = 1 ∧ a ≠ b ∧ lineM [a, b] = [a, b]) ∨ (cmpM a b = 0 ∧ cmpM b a = 0 ∧ a = b ∧ lineM [a, b] = [a]) ∨ (cmpM a b = 1 ∧ cmpM b a = -1 ∧ a ≠ b ∧ b ≠ a ∧ lineM [a, b] = [b, a]) := by
  have hf := cmpM_flip a b
  have hn := cmpM_neg a b
  have hz := cmpM_zero a b
  rw [lineM_two]
  rcases cmpM_vals a b with h | h | h
  · have hne : a ≠ b := fun he => by rw [hz.2 he] at h; cases h
    exact .inl ⟨h, by omega, hne, by rw [if_neg hne, if_pos (hn.1 h)]⟩
  · have he := hz.1 h
    exact .inr (.inl ⟨h, by omega, he, by rw [if_pos he]⟩)
  · have hne : a ≠ b := fun he => by rw [hz.2 he] at h; cases h
    have hl : ¬ less a b = true := fun hl => by rw [hn.2 hl] at h; cases h
    exact .inr (.inr ⟨h, by omega, hne, hne.symm, by rw [if_neg hne, if_neg hl]⟩)
theorem faultM_nil : faultM [] = 0 := rfl
end Go.Ev.Try

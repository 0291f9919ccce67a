/-
  PLAIN: a word of a text is found between spaces; bytes are found where they begin (own work; no program in sight).
-/
import Derived.Test.YtmcakfjbefelgaaDoorAhD
set_option linter.unusedSimpArgs false
set_option linter.unusedVariables false
namespace Go.Ev.Tryd.Hd
open Go Go.Ev Go.Proofs

theorem pieces_cases (l : List UInt8) : (¬ (32 : UInt8) ∈ l ∧ pieces l = [l]) ∨ ∃ A B, l = A ++ 32 :: B ∧ ¬ (32 : UInt8) ∈ A ∧ pieces l = A :: pieces B := by
  induction l with
  | nil => exact .inl ⟨by simp, rfl⟩
  | cons b l ih =>
    have hp : pieces (b :: l) = if b = 32 then [] :: pieces l else match pieces l with
      | [] => [[b]]
      | p :: r => (b :: p) :: r := rfl
    rw [hp]
    by_cases h : b = 32
    · subst h
      exact .inr ⟨[], l, rfl, by simp, by simp⟩
    · rw [if_neg h]
      rcases ih with ⟨h1, h2⟩ | ⟨A, B, h1, h2, h3⟩
      · left
        rw [h2]
        exact ⟨by simp [h1]; exact fun h' => h h'.symm, rfl⟩
      · right
        refine ⟨b :: A, B, by rw [h1]; rfl, by simp [h2]; exact fun h' => h h'.symm, ?_⟩
        rw [h3]
theorem pieces_no (l : List UInt8) : ∀ p ∈ pieces l, ¬ (32 : UInt8) ∈ p := by
  have : ∀ (n : Nat) (l : List UInt8), l.length ≤ n → ∀ p ∈ pieces l, ¬ (32 : UInt8) ∈ p := by
    intro n
    induction n with
    | zero =>
      intro l h p hp
      obtain rfl : l = [] := List.length_eq_zero_iff.1 (by omega)
      simp [pieces] at hp
      subst hp; simp
    | succ n ih =>
      intro l h p hp
      rcases pieces_cases l with ⟨h1, h2⟩ | ⟨A, B, h1, h2, h3⟩
      · rw [h2] at hp
        simp at hp
        subst hp; exact h1
      · rw [h3] at hp
        rcases List.mem_cons.1 hp with rfl | hp
        · exact h2
        · refine ih B ?_ p hp
          rw [h1] at h
          simp at h; omega
  exact this l.length l (Nat.le_refl _)
theorem first_uniq {A A' Y Y' : List UInt8} (hA : ¬ (32 : UInt8) ∈ A) (hA' : ¬ (32 : UInt8) ∈ A') (h : A ++ 32 :: Y = A' ++ 32 :: Y') : A = A' ∧ Y = Y' := by
  induction A generalizing A' with
  | nil =>
    cases A' with
    | nil => simpa using h
    | cons a A' =>
      simp only [List.nil_append, List.cons_append, List.cons.injEq] at h
      exact absurd (by rw [h.1]; simp) hA'
  | cons a A ih =>
    cases A' with
    | nil =>
      simp only [List.nil_append, List.cons_append, List.cons.injEq] at h
      exact absurd (by rw [← h.1]; simp) hA
    | cons a' A' =>
      simp only [List.cons_append, List.cons.injEq] at h
      have := ih (A' := A') (fun hx => hA (List.mem_cons_of_mem _ hx)) (fun hx => hA' (List.mem_cons_of_mem _ hx)) h.2
      rw [h.1, this.1]
      exact ⟨rfl, this.2⟩
/-- The first space of a list stands behind what has none. -/
theorem skip_first {A X R Z : List UInt8} (hA : ¬ (32 : UInt8) ∈ A) (h : A ++ R = X ++ 32 :: Z) : ∃ X2, X = A ++ X2 ∧ R = X2 ++ 32 :: Z := by
  induction A generalizing X with
  | nil => exact ⟨X, rfl, by simpa using h⟩
  | cons a A ih =>
    cases X with
    | nil =>
      simp only [List.nil_append, List.cons_append, List.cons.injEq] at h
      exact absurd (by rw [← h.1]; simp) hA
    | cons x X =>
      simp only [List.cons_append, List.cons.injEq] at h
      obtain ⟨X2, h1, h2⟩ := ih (X := X) (fun hx => hA (List.mem_cons_of_mem _ hx)) h.2
      exact ⟨X2, by rw [h1, h.1]; rfl, h2⟩
theorem piece_infix (S : List UInt8) (hS : ¬ (32 : UInt8) ∈ S) : ∀ (n : Nat) (T : List UInt8), T.length ≤ n → (S ∈ pieces T ↔ ∃ X Y, 32 :: T ++ [32] = X ++ 32 :: (S ++ 32 :: Y)) := by
  intro n
  induction n with
  | zero =>
    intro T hT
    obtain rfl : T = [] := List.length_eq_zero_iff.1 (by omega)
    constructor
    · intro h
      simp [pieces] at h
      subst h
      exact ⟨[], [], rfl⟩
    · rintro ⟨X, Y, h⟩
      have hl := congrArg List.length h
      simp at hl
      have : S = [] := List.length_eq_zero_iff.1 (by omega)
      subst this
      simp [pieces]
  | succ n ih =>
    intro T hT
    rcases pieces_cases T with ⟨h1, h2⟩ | ⟨A, B, h1, h2, h3⟩
    · rw [h2]
      constructor
      · intro h
        simp at h
        subst h
        exact ⟨[], [], rfl⟩
      · rintro ⟨X, Y, h⟩
        cases X with
        | nil =>
          simp only [List.nil_append, List.cons_append, List.cons.injEq, true_and] at h
          have := first_uniq h1 hS h
          simp [this.1]
        | cons x X =>
          simp only [List.cons_append, List.cons.injEq] at h
          obtain ⟨X2, _, h5⟩ := skip_first h1 h.2
          have hl := congrArg List.length h5
          simp at hl
          omega
    · have hB : B.length ≤ n := by rw [h1] at hT; simp at hT; omega
      rw [h3, List.mem_cons, ih B hB]
      constructor
      · rintro (rfl | ⟨X, Y, h⟩)
        · exact ⟨[], B ++ [32], by rw [h1]; simp⟩
        · refine ⟨32 :: A ++ X, Y, ?_⟩
          rw [h1]
          simp only [List.cons_append, List.append_assoc] at h ⊢
          rw [h]
      · rintro ⟨X, Y, h⟩
        rw [h1] at h
        cases X with
        | nil =>
          simp only [List.nil_append, List.cons_append, List.append_assoc, List.cons.injEq, true_and] at h
          exact .inl (first_uniq h2 hS h).1.symm
        | cons x X =>
          simp only [List.cons_append, List.append_assoc, List.cons.injEq] at h
          obtain ⟨X2, _, h5⟩ := skip_first h2 h.2
          exact .inr ⟨X2, Y, by simpa using h5⟩

theorem contains_iff (s sub : List UInt8) : Lib.contains s sub = true ↔ ∃ X Y, s = X ++ (sub ++ Y) := by
  unfold Lib.contains
  rw [decide_eq_true_eq]
  have key : ∀ i, Lib.occAt s sub i = true → i ≤ s.length → ∃ X Y, s = X ++ (sub ++ Y) := fun i h hi => by
    unfold Lib.occAt at h
    rw [List.isPrefixOf_iff_prefix] at h
    obtain ⟨Y, hY⟩ := h
    exact ⟨s.take i, Y, by rw [hY, List.take_append_drop]⟩
  rcases Lib.index_spec s sub with ⟨h1, h2⟩ | ⟨i, h1, h2, h3⟩
  · rw [h1]
    constructor
    · intro h; omega
    · rintro ⟨X, Y, h⟩
      have := h2 X.length (by rw [h]; simp)
      unfold Lib.occAt at this
      rw [h, List.drop_left] at this
      have hp : sub.isPrefixOf (sub ++ Y) = true := by rw [List.isPrefixOf_iff_prefix]; exact List.prefix_append _ _
      rw [hp] at this
      cases this
  · rw [h1]
    constructor
    · intro _
      exact key i h3.1 h2
    · intro _; omega
/-- How the reference finds a word. -/
theorem word_found (T S : ByteArray) : (Lib.contains (32 :: T.data.toList ++ [32]) (32 :: S.data.toList ++ [32]) && !decide (S = ByteArray.empty) && !Lib.contains S.data.toList [32]) = anyL (fun y => decide (S = y)) (words T) := by
  rw [Bool.eq_iff_iff]
  simp only [Bool.and_eq_true, Bool.not_eq_true', decide_eq_false_iff_not]
  unfold anyL
  rw [List.any_eq_true]
  have hmem : (∃ x ∈ words T, decide (S = x) = true) ↔ S.data.toList ∈ pieces T.data.toList ∧ S ≠ ByteArray.empty := by
    unfold words pcs
    simp only [decide_eq_true_eq, List.mem_filter, List.mem_map, Bool.not_eq_true', decide_eq_false_iff_not]
    constructor
    · rintro ⟨x, ⟨⟨p, hp, rfl⟩, hne⟩, rfl⟩
      exact ⟨by simpa using hp, hne⟩
    · rintro ⟨h1, h2⟩
      exact ⟨S, ⟨⟨_, h1, ofL_data S⟩, h2⟩, rfl⟩
  rw [hmem]
  have h32 : Lib.contains S.data.toList [32] = false ↔ ¬ (32 : UInt8) ∈ S.data.toList := by
    rw [← Bool.not_eq_true, contains_iff]
    constructor
    · rintro h hm
      obtain ⟨X, Y, hxy⟩ := List.append_of_mem hm
      exact h ⟨X, Y, by simpa using hxy⟩
    · rintro h ⟨X, Y, hxy⟩
      exact h (by rw [hxy]; simp)
  rw [h32, contains_iff]
  constructor
  · rintro ⟨⟨⟨X, Y, h⟩, h2⟩, h3⟩
    refine ⟨(piece_infix _ h3 _ _ (Nat.le_refl _)).2 ⟨X, Y, ?_⟩, h2⟩
    rw [h]; simp
  · rintro ⟨h1, h2⟩
    have h3 := pieces_no _ _ h1
    obtain ⟨X, Y, h⟩ := (piece_infix _ h3 _ _ (Nat.le_refl _)).1 h1
    exact ⟨⟨⟨X, Y, by rw [h]; simp⟩, h2⟩, h3⟩
/-- Bytes found at a place. -/
theorem has_hit {s sub : List UInt8} {i : Nat} (h : (s.drop i).take sub.length = sub) : Lib.contains s sub = true := by
  rw [contains_iff]
  refine ⟨s.take i, (s.drop i).drop sub.length, ?_⟩
  conv => lhs; rw [← List.take_append_drop i s, ← List.take_append_drop sub.length (s.drop i), h]
theorem has_miss {s sub : List UInt8} (h : ∀ i, i + sub.length ≤ s.length → ¬ (s.drop i).take sub.length = sub) : Lib.contains s sub = false := by
  rw [← Bool.not_eq_true, contains_iff]
  rintro ⟨X, Y, hxy⟩
  refine h X.length (by rw [hxy]; simp) ?_
  rw [hxy, List.drop_left, List.take_left]
end Go.Ev.Tryd.Hd

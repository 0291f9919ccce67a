/-
  THE LINE SEAT: tracks are as many as the crowd (own work, plain).
-/
import Derived.Test.YthmpoblblgohcaaLineH
set_option linter.unusedSimpArgs false
set_option linter.unusedVariables false
namespace Go.Ev.Try
open Go Go.Ev Go.Proofs

def hold (E : List Int) (x : Int) : Nat := E.countP fun e => decide (x ≤ e)
theorem hold_le (E : List Int) (x : Int) : hold E x ≤ E.length := List.countP_le_length
theorem hold_snoc (E : List Int) (y x : Int) : hold (E ++ [y]) x = hold E x + (if x ≤ y then 1 else 0) := by
  rw [hold, List.countP_append, List.countP_singleton]; simp [hold]
theorem hold_set (E : List Int) (j : Nat) (h : j < E.length) (y x : Int) : hold (E.set j y) x + (if x ≤ E[j] then 1 else 0) = hold E x + (if x ≤ y then 1 else 0) := by
  have h1 : E.set j y = E.take j ++ y :: E.drop (j + 1) := by rw [List.set_eq_take_append_cons_drop, if_pos h]
  have h2 : E = E.take j ++ E[j] :: E.drop (j + 1) := by rw [← List.drop_eq_getElem_cons h, List.take_append_drop]
  have e1 : hold (E.set j y) x = (E.take j).countP (fun e => decide (x ≤ e)) + ((E.drop (j + 1)).countP (fun e => decide (x ≤ e)) + if x ≤ y then 1 else 0) := by
    rw [hold, h1, List.countP_append, List.countP_cons]; simp
  have e2 : hold E x = (E.take j).countP (fun e => decide (x ≤ e)) + ((E.drop (j + 1)).countP (fun e => decide (x ≤ e)) + if x ≤ E[j] then 1 else 0) := by
    rw [hold]
    conv => lhs; rw [h2]
    rw [List.countP_append, List.countP_cons]; simp
  rw [e1, e2]; omega
theorem over_snoc' (l : List Mark) (m : Mark) (x : Int) : over (l ++ [m]) x = over l x + (if m.low ≤ x ∧ x ≤ m.high then 1 else 0) := by
  rw [over, over, List.countP_append, List.countP_singleton]
  simp
theorem free_lt {E : List Int} {x : Int} {j : Nat} (h : free E x = some j) : ∃ hj : j < E.length, E[j] < x := by
  rw [free, List.findIdx?_eq_some_iff_getElem] at h
  exact ⟨h.1, by simpa using h.2.1⟩
theorem free_none {E : List Int} {x : Int} (h : free E x = none) : hold E x = E.length := by
  rw [free, List.findIdx?_eq_none_iff] at h
  rw [hold, List.countP_eq_length]
  intro a ha
  have := h a ha
  simp at this ⊢
  exact this

theorem snoc_ind {α : Type} {p : List α → Prop} (h0 : p []) (hs : ∀ l a, p l → p (l ++ [a])) (l : List α) : p l := by
  have h : ∀ m : List α, p m.reverse := fun m => by
    induction m with
    | nil => exact h0
    | cons a m ih => rw [List.reverse_cons]; exact hs _ _ ih
  simpa using h l.reverse

/-- Each point's crowd fits the tracks that reach it. -/
theorem over_hold (P : List Mark) (hP : ∀ m ∈ P, m.low ≤ m.high) : ∀ x, over P x ≤ hold (tracks P).2 x := by
  revert hP
  apply snoc_ind (p := fun P => (∀ m ∈ P, m.low ≤ m.high) → ∀ x, over P x ≤ hold (tracks P).2 x) _ _ P
  · intro _ x; simp [over]
  · intro P m ih hP x
    have ih := ih (fun a ha => hP a (List.mem_append_left _ ha)) x
    have hm := hP m (by simp)
    rw [tracks, List.foldl_append]
    show over (P ++ [m]) x ≤ hold (lay (tracks P) m).2 x
    rw [over_snoc']
    unfold lay
    cases hf : free (tracks P).2 m.low with
    | some j =>
      obtain ⟨hj, hlt⟩ := free_lt hf
      have := hold_set (tracks P).2 j hj m.high x
      simp only
      split <;> rename_i h1 <;> split at this <;> rename_i h2 <;> split at this <;> rename_i h3 <;> omega
    | none =>
      simp only
      rw [hold_snoc]
      split <;> rename_i h1 <;> split <;> rename_i h2 <;> omega
/-- The tracks that reach behind all starts are that many marks. -/
theorem hold_over (P : List Mark) : ∀ x, (∀ m ∈ P, m.low ≤ x) → hold (tracks P).2 x ≤ over P x := by
  apply snoc_ind (p := fun P => ∀ x, (∀ m ∈ P, m.low ≤ x) → hold (tracks P).2 x ≤ over P x) _ _ P
  · intro x _; simp [tracks, hold]
  · intro P m ih x hx
    have ih := ih x (fun a ha => hx a (List.mem_append_left _ ha))
    have hm := hx m (by simp)
    rw [tracks, List.foldl_append]
    show hold (lay (tracks P) m).2 x ≤ over (P ++ [m]) x
    rw [over_snoc']
    unfold lay
    cases hf : free (tracks P).2 m.low with
    | some j =>
      obtain ⟨hj, hlt⟩ := free_lt hf
      have := hold_set (tracks P).2 j hj m.high x
      simp only
      split <;> rename_i h1 <;> split at this <;> rename_i h2 <;> split at this <;> rename_i h3 <;> omega
    | none =>
      simp only
      rw [hold_snoc]
      split <;> rename_i h1 <;> split <;> rename_i h2 <;> omega

theorem crowd_fold (L : List Mark) (P : List Mark) : ∀ s : Nat × Int, s.1 ≤ (P.foldl (crowdStep L) s).1 ∧ (∀ m ∈ P, over L m.low ≤ (P.foldl (crowdStep L) s).1) ∧ ((P.foldl (crowdStep L) s) = s ∨ (P.foldl (crowdStep L) s).1 = over L (P.foldl (crowdStep L) s).2) := by
  induction P with
  | nil => intro s; exact ⟨Nat.le_refl _, by simp, .inl rfl⟩
  | cons m P ih =>
    intro s
    rw [List.foldl_cons]
    obtain ⟨h1, h2, h3⟩ := ih (crowdStep L s m)
    have hs : s.1 ≤ (crowdStep L s m).1 ∧ over L m.low ≤ (crowdStep L s m).1 ∧ (crowdStep L s m = s ∨ (crowdStep L s m).1 = over L (crowdStep L s m).2) := by
      unfold crowdStep
      split
      · exact ⟨by simp only; omega, Nat.le_refl _, .inr rfl⟩
      · exact ⟨Nat.le_refl _, by omega, .inl rfl⟩
    refine ⟨by omega, fun a ha => ?_, ?_⟩
    · rcases List.mem_cons.1 ha with rfl | ha
      · omega
      · exact h2 a ha
    · rcases h3 with h3 | h3
      · rw [h3]; exact hs.2.2
      · exact .inr h3
theorem crowd_max (L : List Mark) {m : Mark} (h : m ∈ L) : over L m.low ≤ (crowd L).1 := (crowd_fold L L (0, 0)).2.1 m h
theorem crowd_over (L : List Mark) (hL : L ≠ []) (hw : ∀ m ∈ L, m.low ≤ m.high) : (crowd L).1 = over L (crowd L).2 := by
  rcases (crowd_fold L L (0, 0)).2.2 with h | h
  · exfalso
    obtain ⟨m, hm⟩ := List.exists_mem_of_ne_nil L hL
    have h1 := crowd_max L hm
    rw [crowd, h] at h1
    have : 0 < over L m.low := by
      rw [over, List.countP_pos_iff]
      exact ⟨m, hm, by simpa using hw m hm⟩
    omega
  · exact h
theorem over_mono {P Q : List Mark} (x : Int) : over P x ≤ over (P ++ Q) x := by rw [over, over, List.countP_append]; omega

/-- No more tracks than the crowd. -/
theorem tracks_le (L : List Mark) (hw : ∀ m ∈ L, m.low ≤ m.high) (hs : Sorted L) : ∀ P Q, L = P ++ Q → (tracks P).2.length ≤ (crowd L).1 := by
  intro P
  apply snoc_ind (p := fun P => ∀ Q, L = P ++ Q → (tracks P).2.length ≤ (crowd L).1) _ _ P
  · intro Q _; simp [tracks]
  · intro P m ih Q hL
    have ih := ih (m :: Q) (by rw [hL]; simp)
    rw [tracks, List.foldl_append]
    show (lay (tracks P) m).2.length ≤ _
    unfold lay
    cases hf : free (tracks P).2 m.low with
    | some j => simpa using ih
    | none =>
      simp only [List.length_append, List.length_singleton]
      have h1 := free_none hf
      have hlow : ∀ a ∈ P, a.low ≤ m.low := by
        intro a ha
        rw [hL, Sorted, List.append_assoc, List.pairwise_append] at hs
        have h := hs.2.2 a ha m (by simp)
        rw [← Bool.not_eq_true, less_iff] at h
        omega
      have h2 := hold_over P m.low hlow
      have hm := hw m (by rw [hL]; simp)
      have h3 := over_snoc' P m m.low
      rw [if_pos ⟨Int.le_refl _, hm⟩] at h3
      have h4 : over (P ++ [m]) m.low ≤ over L m.low := by rw [hL]; exact over_mono _
      have h5 := crowd_max L (m := m) (by rw [hL]; simp)
      omega
theorem tracks_eq (L : List Mark) (hw : ∀ m ∈ L, m.low ≤ m.high) (hs : Sorted L) : (tracks L).2.length = (crowd L).1 := by
  have h1 := tracks_le L hw hs L [] (by simp)
  by_cases hL : L = []
  · subst hL; rfl
  · have h2 := over_hold L hw (crowd L).2
    have h3 := crowd_over L hL hw
    have h4 := hold_le (tracks L).2 (crowd L).2
    omega
end Go.Ev.Try

/-
  THE LINE SEAT: what was divided and merged is itself (own work, plain).
-/
import Derived.Test.YthmpoblblgohcaaLineS
set_option linter.unusedSimpArgs false
set_option linter.unusedVariables false
namespace Go.Ev.Try
open Go Go.Ev Go.Proofs

theorem asc_pairwise {l : List Mark} (h : ∀ (i : Nat) (h : i + 1 < l.length), less l[i] l[i + 1] = true) : l.Pairwise fun a b => less a b = true := by
  rw [List.pairwise_iff_getElem]
  intro i j hi hj hij
  obtain ⟨d, rfl⟩ : ∃ d, j = i + 1 + d := ⟨j - i - 1, by omega⟩
  induction d with
  | zero => exact h i hj
  | succ d ih => exact less_trans (ih (by omega) (by omega)) (h (i + 1 + d) (by omega))
theorem pairwise_asc {l : List Mark} (h : l.Pairwise fun a b => less a b = true) : ∀ (i : Nat) (h : i + 1 < l.length), less l[i] l[i + 1] = true := fun i hi =>
  List.pairwise_iff_getElem.1 h i (i + 1) (by omega) hi (by omega)
theorem Valid.sublist {l m : List Mark} (h : Valid l) (hs : m.Sublist l) : Valid m :=
  ⟨Nat.le_trans hs.length_le h.len, fun x hx => h.range x (hs.subset hx), pairwise_asc ((asc_pairwise h.asc).sublist hs)⟩

theorem dedup_sub (l : List Mark) : (dedup l).Sublist l := by
  have : ∀ n, n ≤ l.length → (dedup (l.take n)).Sublist (l.take n) := by
    intro n
    induction n with
    | zero => intro _; exact List.Sublist.refl _
    | succ n ih =>
      intro hn
      rw [List.take_succ_eq_append_getElem (by omega : n < l.length), dedup_snoc]
      split
      · exact (ih (by omega)).trans (List.sublist_append_left _ _)
      · exact (ih (by omega)).append (List.Sublist.refl _)
  have h := this l.length (Nat.le_refl _)
  rwa [List.take_length] at h
theorem dedup_mem (l : List Mark) (x : Mark) : x ∈ dedup l ↔ x ∈ l := by
  refine ⟨fun h => (dedup_sub l).subset h, fun h => ?_⟩
  have : ∀ n, n ≤ l.length → ∀ x ∈ l.take n, x ∈ dedup (l.take n) := by
    intro n
    induction n with
    | zero => intro _ x hx; simp at hx
    | succ n ih =>
      intro hn x hx
      rw [List.take_succ_eq_append_getElem (by omega : n < l.length)] at hx ⊢
      rw [dedup_snoc]
      split
      · rename_i hlast
        rcases List.mem_append.1 hx with hx | hx
        · exact ih (by omega) x hx
        · rw [List.mem_singleton] at hx
          subst hx
          exact ih (by omega) _ (List.mem_of_getLast? hlast)
      · rcases List.mem_append.1 hx with hx | hx
        · exact List.mem_append_left _ (ih (by omega) x hx)
        · exact List.mem_append_right _ hx
  have h2 := this l.length (Nat.le_refl _)
  rw [List.take_length] at h2
  exact h2 x h
/-- Of a sorted list: strictly sorted. -/
theorem dedup_strict (l : List Mark) (h : Sorted l) : (dedup l).Pairwise fun a b => less a b = true := by
  have key : ∀ n, n ≤ l.length → (dedup (l.take n)).Pairwise fun a b => less a b = true := by
    intro n
    induction n with
    | zero => intro _; exact List.Pairwise.nil
    | succ n ih =>
      intro hn
      rw [List.take_succ_eq_append_getElem (by omega : n < l.length), dedup_snoc]
      split
      · exact ih (by omega)
      · rename_i hne
        rw [List.pairwise_append]
        refine ⟨ih (by omega), by simp, fun a ha b hb => ?_⟩
        rw [List.mem_singleton] at hb
        subst hb
        -- a stands ahead of it, and what is last ahead of it is not alike
        have hs := List.pairwise_iff_getElem.1 h
        have ha2 := (dedup_mem _ _).1 ha
        obtain ⟨i, hi, rfl⟩ := List.mem_iff_getElem.1 ha2
        rw [List.length_take] at hi
        rw [List.getElem_take] at ha ⊢
        cases hq : less l[i] l[n] with
        | true => rfl
        | false =>
          exfalso
          have heq := less_total hq (hs i n (by omega) (by omega) (by omega))
          have hn1 : n - 1 < l.length := by omega
          have h1 : l[n - 1] = l[n] := by
            by_cases hin : i = n - 1
            · subst hin; exact heq
            · have q1 := hs i (n - 1) (by omega) hn1 (by omega)
              have q2 := hs (n - 1) n hn1 (by omega) (by omega)
              rw [heq] at q1
              exact less_total q1 q2
          refine hne ?_
          rw [List.getLast?_eq_getElem?, List.length_take, Nat.min_eq_left (by omega), List.getElem?_take, if_pos (by omega), List.getElem?_eq_getElem hn1, h1]
  have h2 := key l.length (Nat.le_refl _)
  rwa [List.take_length] at h2
theorem strict_nodup {l : List Mark} (h : l.Pairwise fun a b => less a b = true) : l.Nodup :=
  h.imp fun hab he => by subst he; rw [less_irrefl] at hab; cases hab
theorem strict_sorted {l : List Mark} (h : l.Pairwise fun a b => less a b = true) : l.Pairwise fun a b => less b a = false :=
  h.imp fun {a b} hab => by
    cases hq : less b a with
    | false => rfl
    | true => have := less_trans hab hq; rw [less_irrefl] at this; cases this
theorem strict_unique {l m : List Mark} (hl : l.Pairwise fun a b => less a b = true) (hm : m.Pairwise fun a b => less a b = true) (h : ∀ x, x ∈ l ↔ x ∈ m) : l = m :=
  sorted_unique (lt := less) (fun x y h1 h2 => less_total h1 h2) l m ((List.perm_ext_iff_of_nodup (strict_nodup hl) (strict_nodup hm)).2 h) (strict_sorted hl) (strict_sorted hm)
/-- Marks of a timeline, all of them at least once: the timeline. -/
theorem merged (S A : List Mark) (hV : Valid S) (h : ∀ x, x ∈ A ↔ x ∈ S) : dedup (isort A) = S :=
  strict_unique (dedup_strict _ (isort_sorted A)) (asc_pairwise hV.asc) fun x => by rw [dedup_mem, (isort_perm A).mem_iff, h]
end Go.Ev.Try

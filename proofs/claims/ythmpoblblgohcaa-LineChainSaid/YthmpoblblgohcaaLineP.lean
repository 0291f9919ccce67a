/-
  THE LINE SEAT: no other choice has more (own work, plain).
-/
import Derived.Test.YthmpoblblgohcaaLineO
import Derived.Test.YthmpoblblgohcaaLineI
set_option linter.unusedSimpArgs false
set_option linter.unusedVariables false
namespace Go.Ev.Try
open Go Go.Ev Go.Proofs

def stab (p : Int) (m : Mark) : Bool := decide (m.low ≤ p) && decide (p ≤ m.high)
theorem apart_le (P : List Int) : ∀ O : List Mark, O.Pairwise (fun a b => touchP a b = false) → (∀ m ∈ O, m.low ≤ m.high) → (∀ m ∈ O, ∃ p ∈ P, stab p m = true) → O.length ≤ P.length := by
  induction P with
  | nil =>
    intro O _ _ h
    cases O with
    | nil => simp
    | cons m O => obtain ⟨p, hp, _⟩ := h m (by simp); cases hp
  | cons p P ih =>
    intro O hO hw h
    have h1 := ih (O.filter fun m => !stab p m) (hO.sublist List.filter_sublist) (fun m hm => hw m (List.mem_filter.1 hm).1) (fun m hm => by
      obtain ⟨hm1, hm2⟩ := List.mem_filter.1 hm
      obtain ⟨q, hq, hs⟩ := h m hm1
      rcases List.mem_cons.1 hq with rfl | hq
      · rw [hs] at hm2; cases hm2
      · exact ⟨q, hq, hs⟩)
    have h2 : ∀ O : List Mark, O.Pairwise (fun a b => touchP a b = false) → O.length ≤ (O.filter fun m => !stab p m).length + 1 := by
      intro O
      induction O with
      | nil => intro _; simp
      | cons m O ih2 =>
        intro hO
        obtain ⟨a, b⟩ := List.pairwise_cons.1 hO
        cases hs : stab p m with
        | false => have := ih2 b; rw [List.filter_cons, hs]; simp only [Bool.not_false, if_true, List.length_cons]; omega
        | true =>
          have : O.filter (fun m => !stab p m) = O := by
            rw [List.filter_eq_self]
            intro x hx
            have hx' := a x hx
            cases hsx : stab p x with
            | false => rfl
            | true =>
              exfalso
              simp only [stab, touchP, Bool.and_eq_true, decide_eq_true_eq] at hs hsx hx'
              rw [Bool.and_eq_false_iff] at hx'
              simp only [decide_eq_false_iff_not] at hx'
              omega
          rw [List.filter_cons, hs]
          simp [this]
    have := h2 O hO
    simp only [List.length_cons]
    omega

structure Picked (P out : List Mark) : Prop where
  stabbed : ∀ m ∈ P, ∃ y ∈ out, stab y.high m = true
  sub : ∀ y ∈ out, y ∈ P
  apart : ∀ (i : Nat) (h : i + 1 < out.length), out[i].high < out[i + 1].low
theorem picked (P : List Mark) : ByEnd.Sorted P → (∀ m ∈ P, m.low ≤ m.high) → Picked P (P.foldl pick []) := by
  apply snoc_ind (p := fun P => ByEnd.Sorted P → (∀ m ∈ P, m.low ≤ m.high) → Picked P (P.foldl pick [])) _ _ P
  · intro _ _; exact ⟨by simp, by simp, by simp⟩
  · intro P m ih hs hw
    rw [ByEnd.Sorted, List.pairwise_append] at hs
    obtain ⟨h1, _, h3⟩ := hs
    have I := ih h1 fun a ha => hw a (List.mem_append_left _ ha)
    have hm := hw m (by simp)
    rw [List.foldl_append]
    show Picked (P ++ [m]) (pick (P.foldl pick []) m)
    generalize P.foldl pick [] = out at *
    have add : (∀ y, out.getLast? = some y → y.high < m.low) → Picked (P ++ [m]) (out ++ [m]) := fun hl => by
      refine ⟨fun a ha => ?_, fun y hy => ?_, fun i hi => ?_⟩
      · rcases List.mem_append.1 ha with ha | ha
        · obtain ⟨y, hy, hst⟩ := I.stabbed a ha
          exact ⟨y, List.mem_append_left _ hy, hst⟩
        · rw [List.mem_singleton] at ha; subst ha
          exact ⟨a, by simp, by simpa [stab] using hm⟩
      · rcases List.mem_append.1 hy with hy | hy
        · exact List.mem_append_left _ (I.sub y hy)
        · exact List.mem_append_right _ hy
      · rw [List.length_append, List.length_singleton] at hi
        rcases Nat.lt_or_ge (i + 1) out.length with h | h
        · rw [List.getElem_append_left (by omega), List.getElem_append_left h]; exact I.apart i h
        · have : i + 1 = out.length := by omega
          rw [List.getElem_append_left (by omega), List.getElem_append_right (by omega)]
          simp only [this, Nat.sub_self, List.getElem_cons_zero]
          exact hl _ (by rw [List.getLast?_eq_getElem?, show out.length - 1 = i by omega, List.getElem?_eq_getElem])
    unfold pick
    cases hl : out.getLast? with
    | none => exact add (fun y hy => by rw [hl] at hy; cases hy)
    | some y =>
      simp only
      by_cases hlow : y.high < m.low
      · rw [if_pos hlow]; exact add (fun z hz => by rw [hl] at hz; cases hz; exact hlow)
      · rw [if_neg hlow]
        have hy : y ∈ out := List.mem_of_getLast? hl
        refine ⟨fun a ha => ?_, fun z hz => List.mem_append_left _ (I.sub z hz), I.apart⟩
        rcases List.mem_append.1 ha with ha | ha
        · exact I.stabbed a ha
        · rw [List.mem_singleton] at ha; subst ha
          have h4 := h3 y (I.sub y hy) a (by simp)
          rw [← Bool.not_eq_true, ByEnd.less_iff] at h4
          exact ⟨y, hy, by simp [stab]; omega⟩
theorem chain_picked (S : List Mark) (hw : ∀ m ∈ S, m.low ≤ m.high) : Picked S (chain S) := by
  have hp := ByEnd.isort_perm S
  have h := picked (ByEnd.isort S) (ByEnd.isort_sorted S) fun m hm => hw m (hp.mem_iff.1 hm)
  exact ⟨fun m hm => h.stabbed m (hp.mem_iff.2 hm), fun y hy => hp.mem_iff.1 (h.sub y hy), h.apart⟩
/-- No other choice of marks that don't touch has more. -/
theorem chain_most (S O : List Mark) (hw : ∀ m ∈ S, m.low ≤ m.high) (hO : ∀ m ∈ O, m ∈ S) (ha : O.Pairwise fun a b => touchP a b = false) : O.length ≤ (chain S).length := by
  have h := chain_picked S hw
  have := apart_le ((chain S).map (·.high)) O ha (fun m hm => hw m (hO m hm)) (fun m hm => by
    obtain ⟨y, hy, hs⟩ := h.stabbed m (hO m hm)
    exact ⟨y.high, List.mem_map.2 ⟨y, hy, rfl⟩, hs⟩)
  simpa using this
theorem chain_nil (S : List Mark) (hw : ∀ m ∈ S, m.low ≤ m.high) : (chain S).length = 0 ↔ S.length = 0 := by
  have h := chain_picked S hw
  constructor
  · intro h0
    have h0' := List.length_eq_zero_iff.1 h0
    cases S with
    | nil => rfl
    | cons m S =>
      obtain ⟨y, hy, _⟩ := h.stabbed m (by simp)
      rw [h0'] at hy; cases hy
  · intro h0
    have h0' := List.length_eq_zero_iff.1 h0
    subst h0'
    rfl
end Go.Ev.Try

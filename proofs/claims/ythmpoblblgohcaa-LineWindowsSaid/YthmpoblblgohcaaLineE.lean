/-
  THE LINE SEAT: marks (own work).
-/
import Derived.Test.YthmpoblblgohcaaLineD
set_option linter.unusedSimpArgs false
set_option linter.unusedVariables false
set_option maxRecDepth 100000
set_option maxHeartbeats 4000000
namespace Go.Ev.Try
open Go Go.Ev Go.Proofs

/-- What marks are like: numbered, and in bounds. -/
def Made (l : List Mark) : Prop := ∀ (i : Nat) (h : i < l.length), l[i].id = i ∧ -10 ≤ l[i].low ∧ l[i].low ≤ 29 ∧ l[i].low ≤ l[i].high ∧ l[i].high ≤ 37
theorem Made.snoc {l : List Mark} (h : Made l) (x : Mark) (hx : x.id = l.length ∧ -10 ≤ x.low ∧ x.low ≤ 29 ∧ x.low ≤ x.high ∧ x.high ≤ 37) : Made (l ++ [x]) := by
  intro i hi
  rcases Nat.lt_or_ge i l.length with hl | hg
  · rw [List.getElem_append_left hl]; exact h i hl
  · have : i = l.length := by simp at hi; omega
    subst this
    rw [List.getElem_append_right (Nat.le_refl _)]
    simpa using hx
theorem Made.valid {l : List Mark} (h : Made l) (hl : l.length ≤ 400) : Valid (isort l) := by
  have hp := isort_perm l
  have hnd : l.Nodup := by
    rw [List.nodup_iff_pairwise_ne, List.pairwise_iff_getElem]
    intro i j hi hj hij he
    have h1 := (h i hi).1
    have h2 := (h j hj).1
    rw [he] at h1
    omega
  have hnd2 : (isort l).Nodup := hp.nodup_iff.2 hnd
  refine ⟨by rw [isort_length]; exact hl, fun m hm => ?_, fun i hi => ?_⟩
  · obtain ⟨j, hj, rfl⟩ := List.mem_iff_getElem.1 (hp.mem_iff.1 hm)
    obtain ⟨_, a, b, c, d⟩ := h j hj
    omega
  · have hs := isort_sorted l
    rw [Sorted, List.pairwise_iff_getElem] at hs
    have h1 := hs i (i + 1) (by omega) hi (by omega)
    cases hq : less (isort l)[i] (isort l)[i + 1] with
    | true => rfl
    | false =>
      have he := less_total hq h1
      rw [List.nodup_iff_pairwise_ne, List.pairwise_iff_getElem] at hnd2
      exact absurd he (hnd2 i (i + 1) (by omega) hi (by omega))

theorem marks_ok (l : List Int) (z : Bool) {k : Nat} (hk : 100 < k) :
    ∃ ms, Made ms ∧ ms.length ≤ 11 ∧ evF Try.prog Γ (k + 1) 9 [roV z l.length (flatE (intE .i64) l)] [] = some (ownV true 0 0 ms.length 3, [ownB true ms.length (flatE markE ms)]) := by
  obtain ⟨k, rfl⟩ : ∃ j, k = j + 2 := ⟨k - 2, by omega⟩
  have g0 := nextN_lt l 12 (by omega)
  have a0 := next_ok l z 12 (by omega) (by omega) (k := k)
  rw [b9 (Γ := Γ) (k := k + 2) (fun _ _ => rfl) [roV z l.length (flatE (intE .i64) l)] [] (by simp)]
  generalize nextN l 12 = n0 at *
  generalize (z && l.isEmpty) = z1 at *
  generalize l.tail = l1 at *
  simp -implicitDefEqProofs [a0]
  generalize hx : evLoopC _ _ _ _ _ _ _ _ _ _ = R
  apply loop_gen hx (fun a : Nat × (Bool × List Int) × List Mark => (mkL 30 .junk [(3, .ptr 0 0), (4, ownV true 1 0 a.2.2.length 3), (11, .int .i64 n0), (12, .int .i64 a.1)],
      [some (.cells [roV a.2.1.1 a.2.1.2.length (flatE (intE .i64) a.2.1.2)] true), ownB true a.2.2.length (flatE markE a.2.2), none]))
    (fun a => (a.1 : Int) ≤ n0 ∧ a.2.2.length = a.1 ∧ Made a.2.2) (fun a => (n0 - a.1).toNat) (0, (z1, l1), [])
  case hI => exact ⟨by simp only; omega, rfl, fun i h => by simp at h⟩
  case hq => simp only; omega
  case ht => simp -implicitDefEqProofs [liveOf]
  case round =>
    clear hx a0
    rintro ⟨i, ⟨z, m⟩, out⟩ ⟨hi, ho, hM⟩ _
    simp only at hi ho hM
    by_cases hlt : (i : Int) < n0
    · have g40 := nextN_lt m 40 (by omega)
      have g9 := nextN_lt m.tail 9 (by omega)
      have b40 := next_ok m z 40 (by omega) (by omega) (k := k)
      have b9' := next_ok m.tail (z && m.isEmpty) 9 (by omega) (by omega) (k := k)
      generalize nextN m 40 = x40 at *
      generalize nextN m.tail 9 = x9 at *
      generalize (z && m.isEmpty) = z1 at *
      generalize (z1 && m.tail.isEmpty) = z2 at *
      generalize m.tail.tail = m2 at *
      generalize m.tail = m1 at *
      have e1 : subI .i64 x40 10 = x40 - 10 := subI_i64 (by omega) (by omega)
      have e2 : addI .i64 (x40 - 10) x9 = x40 - 10 + x9 := addI_i64 (by omega) (by omega)
      have e3 : addI .i64 (i : Int) 1 = (i : Int) + 1 := addI_i64 (by omega) (by omega)
      have hM2 := hM.snoc ⟨i, x40 - 10, x40 - 10 + x9⟩ ⟨by simp only; omega, by simp only; omega, by simp only; omega, by simp only; omega, by simp only; omega⟩
      cases out with
      | nil =>
        simp -implicitDefEqProofs [hlt, b40, b9', e1, e2, e3]
        exact rnd_next (i + 1, (z2, m2), [⟨i, x40 - 10, x40 - 10 + x9⟩]) ⟨by simp only; omega, by simp at ho ⊢; omega, hM2⟩ (by simp only; omega) (by simp -implicitDefEqProofs [liveOf, markE_f])
      | cons o out' =>
        obtain ⟨out, ho'⟩ : ∃ out, out = o :: out' := ⟨_, rfl⟩
        rw [← ho'] at ho hM hM2 ⊢
        obtain ⟨c, hc⟩ : ∃ c, out.length = c + 1 := ⟨out'.length, by rw [ho']; rfl⟩
        clear ho'
        have hb : (c + 1 + 1) * 24 ≤ 140737488355328 := by omega
        simp -implicitDefEqProofs [hlt, b40, b9', e1, e2, e3, hb, hc]
        exact rnd_next (i + 1, (z2, m2), out ++ [⟨i, x40 - 10, x40 - 10 + x9⟩]) ⟨by simp only; omega, by simp; omega, hM2⟩ (by simp only; omega) (by simp -implicitDefEqProofs [liveOf, markE_f, hc])
    · simp -implicitDefEqProofs [hlt]
      refine ⟨out, hM, by omega, ?_⟩
      cases out <;> simp -implicitDefEqProofs
end Go.Ev.Try

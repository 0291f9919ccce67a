/-
  THE SEAL SEAT: Clone, Append; the law's own chain (own work).
-/
import Derived.Test.YtcpojjjdglhhcaaDoorSgF
set_option linter.unusedSimpArgs false
set_option linter.unusedVariables false
set_option maxRecDepth 100000
set_option maxHeartbeats 4000000
namespace Go.Ev.Tryd
open Go Go.Ev Go.Proofs

theorem clone_ok (l : List Entry) (hl : l.length ≤ 1000) {k : Nat} :
    evF Tryd.prog Γ (k + 1) 12 [roV true l.length (flatE entryE l)] [] = some (ownV true 0 0 l.length 6, [ownB true l.length (flatE entryE l)]) := by
  rw [b12 (fun _ _ => rfl) _ _ (by simp)]
  cases hn : l.length with
  | zero => simp -implicitDefEqProofs
  | succ n =>
    have h1 : (n + 1) * 64 ≤ 140737488355328 := by omega
    have h2 : List.take ((n + 1) * 6) (flatE entryE l) = flatE entryE l := by rw [List.take_of_length_le]; simp [hn]
    simp -implicitDefEqProofs [hn, h1, h2]

def lastSum (l : List Entry) : Int := match l.getLast? with
  | none => 0
  | some x => x.sum

theorem append_ok (l : List Entry) (x : Entry) (hl : okL l) (hx : okE x) (h0 : (check l).2.2 = 0) (h1 : l.length < 100) {k : Nat} (hk : 600 + szL l + szE x ≤ k) :
    evF Tryd.prog Γ (k + 1) 18 [roV true l.length (flatE entryE l), .agg (entryE.f x)] [] =
      if (step (check l).1 l.isEmpty x).2 = 0 then some (.tup [.sl 0 0 (l.length + 1) 6, .int .i64 0], [some (.cells (flatE entryE (l ++ [{ x with sum := sumS (lastSum l) x }])) false)])
      else some (.tup [.nils, .int .i64 (step (check l).1 l.isEmpty x).2], [none]) := by
  have hls : u64 (lastSum l) := by
    unfold lastSum
    cases h : l.getLast? with
    | none => simp [u64]
    | some y => exact (hl y (List.mem_of_getLast? h)).sum
  obtain ⟨k, rfl⟩ : ∃ j, k = j + 1 := ⟨k - 1, by omega⟩
  have c1 := check_ok l true hl (k := k) (by omega)
  have c2 := step_ok (k := k) (by omega) (check l).1 l.isEmpty x
  have c3 := sum_ok (lastSum l) hls x hx (k := k) (by omega)
  have c4 := clone_ok l (by omega) (k := k)
  rw [b18 (fun _ _ => rfl) _ _ (by simp)]
  generalize check l = T at *
  obtain ⟨st, n, e⟩ := T
  simp only at h0
  subst h0
  simp only at c1 c2 ⊢
  generalize step st l.isEmpty x = S at *
  obtain ⟨st', e'⟩ := S
  have h100 : ¬ ((l.length : Int) = 100) := by omega
  simp only [stateE_f, entryE_f] at c1 c2 c3
  cases hn : l.length with
  | zero =>
    have hnil : l = [] := List.length_eq_zero_iff.1 hn
    subst hnil
    have e0 : lastSum [] = 0 := rfl
    rw [e0] at c3
    simp at c1 c2 c3 c4
    by_cases he : e' = 0
    · simp -implicitDefEqProofs [c1, c2, c3, c4, he, stateE_f, entryE_f, e0]
      done
    · simp -implicitDefEqProofs [c1, c2, c3, c4, he, stateE_f, entryE_f, e0]
  | succ m =>
    have hm : m < l.length := by omega
    have hlast : lastSum l = l[m].sum := by
      unfold lastSum
      have : l.getLast? = some l[m] := by
        rw [List.getLast?_eq_getElem?, hn, Nat.add_sub_cancel, List.getElem?_eq_getElem hm]
      rw [this]
    have hne : l.isEmpty = false := by cases l with
      | nil => simp at hn
      | cons => rfl
    have e1 : subI .i64 ((m : Int) + 1) 1 = (m : Int) := by rw [subI_i64 (by omega) (by omega)]; omega
    have e2 : ¬ ((m : Int) + 1 = 100) := by omega
    have e3 : ¬ ((m : Int) + 1 = 0) := by omega
    have e4 : (0 : Int) < (m : Int) + 1 := by omega
    have e5 : (m + 1 + 1) * 64 ≤ 140737488355328 := by omega
    have e6 : (m : Int) < (m : Int) + 1 := by omega
    rw [hne] at c2
    rw [hlast] at c3 ⊢
    rw [hn] at c1 c4
    simp only [roV_succ, ownV_succ, ownB_succ] at c1 c4
    by_cases he : e' = 0
    · simp -implicitDefEqProofs [c1, c2, c3, c4, he, stateE_f, entryE_f, e1, e2, e3, e4, e5, e6, hn, hm]


    · simp -implicitDefEqProofs [c1, c2, c3, c4, he, stateE_f, entryE_f, e1, e2, e3, e4, e5, e6, hn, hm]
end Go.Ev.Tryd

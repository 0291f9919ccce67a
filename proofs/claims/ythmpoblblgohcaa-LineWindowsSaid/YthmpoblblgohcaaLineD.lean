/-
  THE LINE SEAT: Clone, Check, Of (own work).
-/
import Derived.Test.YthmpoblblgohcaaLineC
set_option linter.unusedSimpArgs false
set_option linter.unusedVariables false
set_option maxRecDepth 100000
set_option maxHeartbeats 4000000
namespace Go.Ev.Try
open Go Go.Ev Go.Proofs

theorem clone_ok (l : List Mark) (hl : l.length ≤ 1000000) {k : Nat} :
    evF Try.prog Γ (k + 1) 32 [roV true l.length (flatE markE l)] [] = some (ownV true 0 0 l.length 3, [ownB true l.length (flatE markE l)]) := by
  rw [b32 (fun _ _ => rfl) _ _ (by simp)]
  cases hn : l.length with
  | zero => simp -implicitDefEqProofs
  | succ n =>
    have h1 : (n + 1) * 24 ≤ 140737488355328 := by omega
    have h2 : List.take ((n + 1) * 3) (flatE markE l) = flatE markE l := by rw [List.take_of_length_le]; simp [hn]
    simp -implicitDefEqProofs [hn, h1, h2]

/-- A right timeline. -/
structure Valid (l : List Mark) : Prop where
  len : l.length ≤ 400
  range : ∀ m ∈ l, -4294967295 ≤ m.low ∧ m.high ≤ 4294967295 ∧ m.low ≤ m.high
  asc : ∀ (i : Nat) (h : i + 1 < l.length), less l[i] l[i + 1] = true

theorem check_good (l : List Mark) (z : Bool) (hV : Valid l) {k : Nat} (hk : 1000 < k) :
    evF Try.prog Γ (k + 1) 23 [roV z l.length (flatE markE l)] [] = some (.int .i64 0, []) := by
  obtain ⟨k, rfl⟩ : ∃ j, k = j + 1 := ⟨k - 1, by omega⟩
  have c := fun a b => cmpM_ok a b (k := k) (by omega)
  simp only [markE_f] at c
  have hl := hV.len
  have h400 : ¬ (400 : Int) < l.length := by omega
  rw [b23 (fun _ _ => rfl) _ _ (by simp)]
  simp -implicitDefEqProofs [h400]
  generalize hx : evLoopC _ _ _ _ _ _ _ _ _ _ = R
  apply loop_gen hx (fun i : Nat => (mkL 43 .junk [(0, roV z l.length (flatE markE l)), (8, roV z l.length (flatE markE l)), (9, .int .i64 l.length), (10, .int .i64 i)], [none, none])) (fun i => i ≤ l.length) (fun i => l.length - i) 0
  case hI => omega
  case hq => omega
  case ht => simp -implicitDefEqProofs [liveOf]
  case round =>
    rintro i hi _
    clear hx
    by_cases hlt : i < l.length
    · have e2 : addI .i64 (i : Int) 1 = (i : Int) + 1 := addI_i64 (by omega) (by omega)
      obtain ⟨r1, r2, r3⟩ := hV.range l[i] (List.getElem_mem hlt)
      have q1 : ¬ l[i].low < -4294967295 := by omega
      have q2 : ¬ 4294967295 < l[i].high := by omega
      have q3 : ¬ l[i].high < l[i].low := by omega
      cases i with
      | zero =>
        have b0 : (0 : Int) < l.length := by omega
        have b0' : 0 < l.length := hlt
        have b1 : ¬ l.length = 0 := by omega
        have m0 : List.take 3 (flatE markE l) = [.int .i64 l[0].id, .int .i64 l[0].low, .int .i64 l[0].high] := by
          have h := at_marks l 0 hlt
          rw [Nat.zero_mul, List.drop_zero] at h
          exact h
        have e9 : addI .i64 0 1 = 1 := addI_i64 (by omega) (by omega)
        simp -implicitDefEqProofs [hlt, b0, b0', b1, m0, e2, e9, markE_f, q1, q2, q3]
        exact rnd_next 1 (by omega) (by omega) (by simp -implicitDefEqProofs [liveOf])
      | succ p =>
        have e3 : subI .i64 ((p : Int) + 1) 1 = (p : Int) := by rw [subI_i64 (by omega) (by omega)]; omega
        have e4 : addI .i64 ((p : Int) + 1) 1 = (p : Int) + 1 + 1 := addI_i64 (by omega) (by omega)
        have e5 : (0 : Int) < (p : Int) + 1 := by omega
        have e6 : (0 : Int) ≤ (p : Int) + 1 := by omega
        have b1 : (p : Int) + 1 < l.length := by omega
        have b2 : (p : Int) < l.length := by omega
        have hp : p < l.length := by omega
        have hlss := hV.asc p hlt
        rw [← cmpM_less] at hlss
        have hc : ¬ 0 ≤ cmpM l[p] l[p + 1] := by have := of_decide_eq_true hlss; omega
        have my := at_marks l p hp
        have mx := at_marks l (p + 1) hlt
        simp -implicitDefEqProofs [hlt, hp, e3, e4, e5, e6, b1, b2, my, mx, markE_f, q1, q2, q3, c, hc]
        exact rnd_next (p + 1 + 1) (by omega) (by omega) (by simp -implicitDefEqProofs [liveOf])
    · have hi' : i = l.length := by omega
      subst hi'
      simp -implicitDefEqProofs

theorem sort_nil {k : Nat} (hk : 100 < k) : evF Try.prog Γ (k + 1) 33 [.nils, .fn (.func 25) [] []] [] = some (.tup [], []) := by
  have h : evF Try.prog Γ 20 33 [.nils, .fn (.func 25) [] []] [] = some (.tup [], []) := by kernel_rfl
  exact evF_mono (by omega) _ _ _ _ h
theorem compact_nil {k : Nat} (hk : 100 < k) : evF Try.prog Γ (k + 1) 34 [.nils] [] = some (.nils, [none]) := by
  have h : evF Try.prog Γ 20 34 [.nils] [] = some (.nils, [none]) := by kernel_rfl
  exact evF_mono (by omega) _ _ _ _ h

/-- Of, where the marks may stand twice: the row has zeros behind. -/
theorem of_any (l : List Mark) (hl : l.length ≤ 100000) (hV : Valid (dedup (isort l))) {k : Nat} (hk : l.length + 2010 < k) (hne : l.length ≠ 0) :
    evF Try.prog Γ (k + 1) 8 [roV true l.length (flatE markE l)] [] = some (.tup [.sl 0 0 (dedup (isort l)).length 3, .int .i64 0], [some (.cells (flatE markE (dedup (isort l) ++ List.replicate (l.length - (dedup (isort l)).length) mark0)) false)]) := by
  obtain ⟨k, rfl⟩ : ∃ j, k = j + 1 := ⟨k - 1, by omega⟩
  have c1 := clone_ok l (by omega) (k := k)
  have c4 := check_good (dedup (isort l)) false hV (k := k) (by omega)
  have hlen := isort_length l
  rw [b8 (fun _ _ => rfl) _ _ (by simp)]
  obtain ⟨n, hn⟩ : ∃ n, l.length = n + 1 := ⟨l.length - 1, by omega⟩
  have c2 := sort33 l (by omega) (ex := false) (k := k)
  have c3 := compact_any (isort l) (by omega) (k := k) (by omega)
  have h2 : ∀ M : List Mark, List.take ((dedup (isort l)).length * 3) (flatE markE (dedup (isort l)) ++ flatE markE M) = flatE markE (dedup (isort l)) := fun M => by rw [List.take_append_of_le_length (by simp), List.take_of_length_le (by simp)]
  rw [hlen] at c3
  rw [hn] at c1 c2 c3
  rw [hn]
  simp only [roV_succ, ownV_succ, ownB_succ, roV_false] at c1 c4
  generalize hS : isort l = S at *
  generalize dedup S = D at *
  simp -implicitDefEqProofs [flatE_append] at c3
  simp -implicitDefEqProofs [c1, c2, c3, c4, h2]

theorem of_ok (l : List Mark) (h11 : l.length ≤ 100000) (hV : Valid (isort l)) {k : Nat} (hk : l.length + 2010 < k) :
    evF Try.prog Γ (k + 1) 8 [roV true l.length (flatE markE l)] [] = some (.tup [ownV true 0 0 l.length 3, .int .i64 0], [ownB true l.length (flatE markE (isort l))]) := by
  by_cases hne : l.length = 0
  · obtain ⟨k, rfl⟩ : ∃ j, k = j + 1 := ⟨k - 1, by omega⟩
    have c1 := clone_ok l (by omega) (k := k)
    have c4 := check_good (isort l) true hV (k := k) (by omega)
    have hlen := isort_length l
    rw [b8 (fun _ _ => rfl) _ _ (by simp)]
    have hnil : l = [] := List.length_eq_zero_iff.1 hne
    subst hnil
    have c2 := sort_nil (k := k) (by omega)
    have c3 := compact_nil (k := k) (by omega)
    rw [hlen] at c4
    simp [isort] at c1 c4
    simp -implicitDefEqProofs [c1, c2, c3, c4, isort]
  · have hA : Apart (isort l) := fun i h he => by
      have := hV.asc i h
      rw [he, less_irrefl] at this
      cases this
    have hd := dedup_apart _ hA
    have h := of_any l h11 (by rw [hd]; exact hV) hk hne
    rw [hd, isort_length] at h
    obtain ⟨n, hn⟩ : ∃ n, l.length = n + 1 := ⟨l.length - 1, by omega⟩
    rw [hn] at h ⊢
    simpa using h
end Go.Ev.Try

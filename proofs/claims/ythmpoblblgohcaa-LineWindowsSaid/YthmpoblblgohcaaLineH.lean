/-
  THE LINE SEAT: Crowd, lined (own work).
-/
import Derived.Test.YthmpoblblgohcaaLineF
set_option linter.unusedSimpArgs false
set_option linter.unusedVariables false
set_option maxRecDepth 100000
set_option maxHeartbeats 4000000
namespace Go.Ev.Try
open Go Go.Ev Go.Proofs

/-- How many marks stand over a point. -/
def over (l : List Mark) (x : Int) : Nat := l.countP fun m => decide (m.low ≤ x) && decide (x ≤ m.high)
def crowdStep (L : List Mark) (s : Nat × Int) (m : Mark) : Nat × Int := if s.1 < over L m.low then (over L m.low, m.low) else s
def crowd (L : List Mark) : Nat × Int := L.foldl (crowdStep L) (0, 0)
theorem over_le (l : List Mark) (x : Int) : over l x ≤ l.length := List.countP_le_length
theorem over_snoc (l : List Mark) (x : Int) (i : Nat) (h : i < l.length) : over (l.take (i + 1)) x = over (l.take i) x + (if l[i].low ≤ x ∧ x ≤ l[i].high then 1 else 0) := by
  rw [List.take_succ_eq_append_getElem h, over, over, List.countP_append, List.countP_singleton]
  simp

theorem crowd_ok (l : List Mark) (z : Bool) (hV : Valid l) {k : Nat} (hk : 3000 < k) :
    evF Try.prog Γ (k + 1) 11 [roV z l.length (flatE markE l)] [] = some (.tup [.int .i64 (crowd l).1, .int .i64 (crowd l).2, .int .i64 0], []) := by
  obtain ⟨k, rfl⟩ : ∃ j, k = j + 1 := ⟨k - 1, by omega⟩
  have hl := hV.len
  have c1 := check_good l z hV (k := k) (by omega)
  rw [b11 (fun _ _ => rfl) _ _ (by simp)]
  simp -implicitDefEqProofs [c1]
  clear c1
  generalize hx : evLoopC _ _ _ _ _ _ _ _ _ _ = R
  apply loop_gen hx (fun a : Nat × Nat × Int => (mkL 54 .junk [(0, roV z l.length (flatE markE l)), (6, .int .i64 a.2.1), (7, .int .i64 a.2.2), (18, roV z l.length (flatE markE l)), (19, .int .i64 l.length), (20, .int .i64 a.1)],
      [none, none]))
    (fun a => a.1 ≤ l.length ∧ a.2 = (l.take a.1).foldl (crowdStep l) (0, 0)) (fun a => l.length - a.1) (0, 0, 0)
  case hI => simp
  case hq => simp only; omega
  case ht => simp -implicitDefEqProofs [liveOf]
  case round =>
    rintro ⟨i, b, w⟩ ⟨hi, hb⟩ _
    clear hx
    simp only at hi hb
    by_cases hlt : i < l.length
    · have hlt2 : (i : Int) < l.length := by omega
      have e2 : addI .i64 (i : Int) 1 = (i : Int) + 1 := addI_i64 (by omega) (by omega)
      have hm := at_marks l i hlt
      have hs : (l.take (i + 1)).foldl (crowdStep l) (0, 0) = crowdStep l (b, w) l[i] := by
        rw [List.take_succ_eq_append_getElem hlt, List.foldl_append, ← hb]; rfl
      generalize l[i] = x at *
      simp -implicitDefEqProofs [hlt2, hm, markE_f]
      generalize hy : evLoopC _ _ _ _ _ _ _ _ _ _ = R2
      apply loop_gen hy (fun a : Nat × Nat => (mkL 54 .junk [(0, roV z l.length (flatE markE l)), (6, .int .i64 b), (7, .int .i64 w), (9, .ptr 1 0), (10, .int .i64 a.2), (18, roV z l.length (flatE markE l)), (19, .int .i64 l.length), (20, .int .i64 i), (24, roV z l.length (flatE markE l)), (25, .int .i64 l.length), (26, .int .i64 a.1)],
          [none, some (.cells [.int .i64 x.id, .int .i64 x.low, .int .i64 x.high] true), none, none]))
        (fun a => a.1 ≤ l.length ∧ a.2 = over (l.take a.1) x.low) (fun a => l.length - a.1) (0, 0)
      case hI => simp [over]
      case hq => simp only; omega
      case ht => simp -implicitDefEqProofs [liveOf]
      case round =>
        rintro ⟨j, o⟩ ⟨hj, ho⟩ _
        clear hy
        simp only at hj ho
        have hol := over_le (l.take j) x.low
        rw [List.length_take] at hol
        by_cases hlj : j < l.length
        · have hlj2 : (j : Int) < l.length := by omega
          have e3 : addI .i64 (j : Int) 1 = (j : Int) + 1 := addI_i64 (by omega) (by omega)
          have e4 : addI .i64 (o : Int) 1 = (o : Int) + 1 := addI_i64 (by omega) (by omega)
          have hn := at_marks l j hlj
          have hos := over_snoc l x.low j hlj
          generalize l[j] = y at *
          by_cases h1 : y.low ≤ x.low
          · by_cases h2 : x.low ≤ y.high
            · simp -implicitDefEqProofs [hlj2, hn, markE_f, e3, e4, h1, h2]
              refine rnd_next (j + 1, o + 1) ⟨hlj, ?_⟩ (by simp only; omega) (by simp -implicitDefEqProofs [liveOf])
              simp only
              rw [hos, if_pos ⟨h1, h2⟩, ho]
            · simp -implicitDefEqProofs [hlj2, hn, markE_f, e3, e4, h1, h2]
              refine rnd_next (j + 1, o) ⟨hlj, ?_⟩ (by simp only; omega) (by simp -implicitDefEqProofs [liveOf])
              simp only
              rw [hos, if_neg (fun h => h2 h.2), ho]; rfl
          · simp -implicitDefEqProofs [hlj2, hn, markE_f, e3, e4, h1]
            refine rnd_next (j + 1, o) ⟨hlj, ?_⟩ (by simp only; omega) (by simp -implicitDefEqProofs [liveOf])
            simp only
            rw [hos, if_neg (fun h => h1 h.1), ho]; rfl
        · have hj' : j = l.length := by omega
          subst hj'
          rw [List.take_length] at ho
          by_cases hgt : b < o
          · have hgt2 : (b : Int) < o := by omega
            simp -implicitDefEqProofs [hgt2, e2, hgt]
            refine rnd_next (i + 1, o, x.low) ⟨hlt, ?_⟩ (by simp only; omega) (by simp -implicitDefEqProofs [liveOf])
            simp only
            rw [hs, crowdStep, if_pos (by rw [← ho]; exact hgt), ho]
          · have hgt2 : ¬ (b : Int) < o := by omega
            simp -implicitDefEqProofs [hgt2, e2, hgt]
            refine rnd_next (i + 1, b, w) ⟨hlt, ?_⟩ (by simp only; omega) (by simp -implicitDefEqProofs [liveOf])
            simp only
            rw [hs, crowdStep, if_neg (by rw [← ho]; exact hgt)]
    · have hi' : i = l.length := by omega
      subst hi'
      rw [List.take_length] at hb
      rw [show crowd l = (b, w) from hb.symm]
      simp -implicitDefEqProofs

theorem lined_ok {k : Nat} (hk : 2030 < k) : evF Try.prog Γ (k + 1) 12 [] [] = some (.bool true, []) := by
  obtain ⟨k, rfl⟩ : ∃ j, k = j + 1 := ⟨k - 1, by omega⟩
  have hi : isort [⟨2, 5, 6⟩, ⟨1, 1, 2⟩] = [⟨1, 1, 2⟩, ⟨2, 5, 6⟩] := by decide
  have hV : Valid (isort [⟨2, 5, 6⟩, ⟨1, 1, 2⟩]) := by
    rw [hi]
    refine ⟨by decide, by decide, fun i h => ?_⟩
    cases i with
    | zero => simp [less]
    | succ i => simp at h; omega
  have c := of_ok _ (by decide) hV (k := k) (by simp only [List.length_cons, List.length_nil]; omega)
  rw [hi] at c
  simp [markE_f] at c
  rw [b12 (fun _ _ => rfl) _ _ (by simp)]
  simp -implicitDefEqProofs [c]
end Go.Ev.Try

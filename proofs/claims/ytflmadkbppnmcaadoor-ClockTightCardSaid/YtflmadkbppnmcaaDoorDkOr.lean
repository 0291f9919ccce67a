/-
  THE CLOCK DOOR SEAT: ClockOrder's walk (own work).
-/
import Derived.Test.YtflmadkbppnmcaaDoorDkR
import Derived.Test.YtflmadkbppnmcaaDoorDkC7
import Derived.Test.YtflmadkbppnmcaaDoorDkBn
set_option linter.unusedSimpArgs false
set_option linter.unusedVariables false
set_option maxRecDepth 100000
set_option maxHeartbeats 4000000
namespace Go.Ev.Tryd
open Go Go.Ev Go.Proofs

theorem roV_pos {z : Bool} {n : Nat} {cs : List V} : roV z (n + 1) cs = .ros (n + 1) cs := by cases z <;> rfl
theorem roV_nil : roV true 0 [] = .nils := rfl

theorem answer_made {l : List Event} {ties : List Tie} (h : faultC l ties = 0) (f : Mat → List (Int × Int)) :
    answer l ties f = match closed (nV l) (bds l ties) with
      | none => ([], 17)
      | some d => (f d, 0) := by
  unfold answer
  rw [if_pos h]
  cases closed (nV l) (bds l ties) <;> rfl

theorem ivs_drop (d : Mat) (a c : Nat) {i : Nat} (h : i < c) : List.drop (i * 2) (flatE pairE (ivs d a c)) = .int .i64 (- d (a + i) 0) :: .int .i64 (d 0 (a + i)) :: flatE pairE ((ivs d a c).drop (i + 1)) := by
  have hi : i < (ivs d a c).length := by rw [ivs_length]; exact h
  rw [drop_flatE' pairE (n := 2) rfl, List.drop_eq_getElem_cons hi, flatE_cons, pairE_f]
  have : (ivs d a c)[i] = (- d (a + i) 0, d 0 (a + i)) := by simp [ivs]
  rw [this]; rfl
theorem ivs_drop1 (d : Mat) (a c : Nat) {i : Nat} (h : i < c) : List.drop (i * 2 + 1) (flatE pairE (ivs d a c)) = .int .i64 (d 0 (a + i)) :: flatE pairE ((ivs d a c).drop (i + 1)) := by
  rw [← List.drop_drop, ivs_drop d a c h]; rfl
end Go.Ev.Tryd

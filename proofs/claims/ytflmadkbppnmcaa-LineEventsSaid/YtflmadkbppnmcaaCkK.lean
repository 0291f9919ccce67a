/-
  THE CLOCK SEAT: the fact 'timed', at all fuels (own work).
-/
import Derived.Test.YtflmadkbppnmcaaCkJ
set_option linter.unusedSimpArgs false
set_option linter.unusedVariables false
set_option maxRecDepth 100000
set_option maxHeartbeats 8000000
namespace Go.Ev.Try
open Go Go.Ev Go.Proofs
def net3 (a b c : List Int) : Heap := [some (.cells [.sl 1 0 3 1, .sl 2 0 3 1, .sl 3 0 3 1] true), some (.cells (flatE (intE .i64) a) true), some (.cells (flatE (intE .i64) b) true), some (.cells (flatE (intE .i64) c) true)]
theorem solvedG {k : Nat} (A B : List V) (a b c a' b' c' : List Int)
    (c1 : evF Try.prog Γ (k + 58) 53 [.ros 1 A, .ros 1 B] [] = some (.sl 0 0 3 1, net3 a b c))
    (c2 : evF Try.prog Γ (k + 58) 54 [.sl 0 0 3 1] (net3 a b c) = some (.bool true, net3 a' b' c' ++ [none, none, none])) :
    evF Try.prog Γ (k + 58 + 1) 36 [.ros 1 A, .ros 1 B] [] = some (.tup [.sl 0 0 3 1, .bool true], net3 a' b' c') := by
  rw [b36 (fun _ _ => rfl) _ _ (by simp)]
  simp -implicitDefEqProofs [net3] at c1 c2
  simp -implicitDefEqProofs [net3, c1, c2]
theorem solveG {k : Nat} (A B : List V) (a b c : List Int) (s : ByteArray) (la : a.length = 3) (lb : b.length = 3) (lc : c.length = 3) (x y : Int)
    (cs : evF Try.prog Γ (k + 59) 36 [.ros 1 A, .ros 1 B] [] = some (.tup [.sl 0 0 3 1, .bool true], net3 a b c))
    (c3 : evF Try.prog Γ (k + 59) 12 [.ros 1 A, .ros 1 B] [] = some (.int .i64 0, []))
    (c4 : evF Try.prog Γ (k + 59) 10 [.ros 1 A] [] = some (.sl 0 0 1 1, [some (.cells [.str s] false)]))
    (c5 : evF Try.prog Γ (k + 59) 39 [.ros 3 [.ros 3 (flatE (intE .i64) a), .ros 3 (flatE (intE .i64) b), .ros 3 (flatE (intE .i64) c)], .int .i64 2, .int .i64 1] [] = some (.sl 0 0 1 2, [some (.cells [.int .i64 x, .int .i64 y] false)])) :
    evF Try.prog Γ (k + 59 + 1) 18 [.ros 1 A, .ros 1 B] [] = some (.tup [.sl 0 0 1 2, .int .i64 0], [some (.cells [.int .i64 x, .int .i64 y] false)]) := by
  have ta : List.take 3 (flatE (intE .i64) a) = flatE (intE .i64) a := by rw [List.take_of_length_le]; simp [la]
  have tb : List.take 3 (flatE (intE .i64) b) = flatE (intE .i64) b := by rw [List.take_of_length_le]; simp [lb]
  have tc : List.take 3 (flatE (intE .i64) c) = flatE (intE .i64) c := by rw [List.take_of_length_le]; simp [lc]
  have e11 : addI .i64 1 1 = 2 := by rw [addI_i64 (by omega) (by omega)]; omega
  rw [b18 (fun _ _ => rfl) _ _ (by simp)]
  simp -implicitDefEqProofs [net3] at cs
  simp -implicitDefEqProofs [cs, c3, c4, c5, e11, ta, tb, tc]
theorem solve3 {k : Nat} : evF Try.prog Γ (k + 59 + 1) 18 [.ros 1 ev1, .ros 1 ti1] [] = some (.tup [.sl 0 0 1 2, .int .i64 0], [some (.cells [.int .i64 10, .int .i64 12] false)]) :=
  solveG ev1 ti1 [0, 7, 12] [-5, 0, 5] [-10, -5, 0] ⟨#[97]⟩ rfl rfl rfl 10 12
    (solvedG ev1 ti1 [0, 4294967295, 12] [4294967295, 0, 5] [-10, -5, 0] _ _ _ (evF_mono (show 40 ≤ k + 58 by omega) _ _ _ _ build3) (close3 (k := k + 38)))
    (evF_mono (show 40 ≤ k + 59 by omega) _ _ _ _ check3) (evF_mono (show 40 ≤ k + 59 by omega) _ _ _ _ clocks3) (evF_mono (show 40 ≤ k + 59 by omega) _ _ _ _ intervals3)
end Go.Ev.Try

/-
  THE CLOCK SEAT: One (own work).
-/
import Derived.Test.YtflmadkbppnmcaaCkY
set_option linter.unusedSimpArgs false
set_option linter.unusedVariables false
set_option maxRecDepth 100000
set_option maxHeartbeats 4000000
namespace Go.Ev.Try
open Go Go.Ev Go.Proofs

theorem at_pairs (l : List (Int × Int)) (i : Nat) (h : i < l.length) : List.take 2 (List.drop (i * 2) (flatE pairE l)) = [.int .i64 l[i].1, .int .i64 l[i].2] := at_flatE pairE rfl l i h
def fsts (l : List (Int × Int)) : List Int := l.map (·.1)
@[simp] theorem fsts_length (l : List (Int × Int)) : (fsts l).length = l.length := by simp [fsts]
end Go.Ev.Try

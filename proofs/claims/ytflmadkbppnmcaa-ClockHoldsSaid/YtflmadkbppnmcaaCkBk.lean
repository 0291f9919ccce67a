import Derived.Test.YtflmadkbppnmcaaCkBj
import Derived.Test.YtflmadkbppnmcaaCkI
set_option linter.unusedSimpArgs false
set_option linter.unusedVariables false
set_option maxRecDepth 100000
set_option maxHeartbeats 4000000
namespace Go.Ev.Try
open Go Go.Ev Go.Proofs
theorem callPlain_tupb {α : Type} {E : Enc α} [E.Own] {call : CallF} {H : Heap} {f c sz : Nat} {l : List α} {b : Bool} {args : List V} (hc : call f (args.map (snap 4 H)) [] = some (.tup [ownV true 0 0 c sz, .bool b], [ownB true c (flatE E l)])) :
    callPlain call H f args = some (.tup [ownV true H.length 0 c sz, .bool b], H ++ [ownB true c (flatE E l)]) := by
  unfold callPlain
  rw [hc]
  cases c <;> simp
theorem ranges_shape (l : List Event) (ties : List Tie) : ∃ L : List (Int × Int), rangesV l ties = some (.tup [ownV true 0 0 L.length 2, .bool (feas l ties)], [ownB true L.length (flatE pairE L)]) := by
  unfold rangesV feas
  cases closed (nV l) (bds l ties) with
  | none => exact ⟨[], by simp⟩
  | some d => exact ⟨ivs d 1 (nV l - 1), by simp⟩
end Go.Ev.Try

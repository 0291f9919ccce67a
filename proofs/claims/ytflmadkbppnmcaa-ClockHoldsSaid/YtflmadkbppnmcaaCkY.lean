/-
  THE CLOCK SEAT: Solve, Errors (own work).
-/
import Derived.Test.YtflmadkbppnmcaaCkX
import Derived.Test.YtflmadkbppnmcaaCkC5
set_option linter.unusedSimpArgs false
set_option linter.unusedVariables false
set_option maxRecDepth 100000
set_option maxHeartbeats 4000000
namespace Go.Ev.Try
open Go Go.Ev Go.Proofs

theorem callPlain_own {α : Type} {E : Enc α} [E.Own] {call : CallF} {H : Heap} {f c sz : Nat} {l : List α} {args : List V} (hc : call f (args.map (snap 4 H)) [] = some (ownV true 0 0 c sz, [ownB true c (flatE E l)])) :
    callPlain call H f args = some (ownV true H.length 0 c sz, H ++ [ownB true c (flatE E l)]) := by
  unfold callPlain
  rw [hc]
  cases c <;> simp
theorem callPlain_int {call : CallF} {H : Heap} {f : Nat} {k : IntKind} {x : Int} {args : List V} (hc : call f (args.map (snap 4 H)) [] = some (.int k x, [])) : callPlain call H f args = some (.int k x, H) := by
  unfold callPlain; rw [hc]; simp
theorem callPlain_bool {call : CallF} {H : Heap} {f : Nat} {x : Bool} {args : List V} (hc : call f (args.map (snap 4 H)) [] = some (.bool x, [])) : callPlain call H f args = some (.bool x, H) := by
  unfold callPlain; rw [hc]; simp
theorem callPlain_tup {α : Type} {E : Enc α} [E.Own] {call : CallF} {H : Heap} {f c sz : Nat} {l : List α} {k : IntKind} {e : Int} {args : List V} (hc : call f (args.map (snap 4 H)) [] = some (.tup [ownV true 0 0 c sz, .int k e], [ownB true c (flatE E l)])) :
    callPlain call H f args = some (.tup [ownV true H.length 0 c sz, .int k e], H ++ [ownB true c (flatE E l)]) := by
  unfold callPlain
  rw [hc]
  cases c <;> simp
/-- What Solve and Errors return. -/
def answer (l : List Event) (ties : List Tie) (f : Mat → List (Int × Int)) : List (Int × Int) × Int :=
  if faultC l ties = 0 then match closed (nV l) (bds l ties) with
    | some d => (f d, 0)
    | none => ([], 17)
  else ([], faultC l ties)
theorem clo_tame {l : List Event} {ties : List Tie} (hr : Right l ties) {d : Mat} (h : closed (nV l) (bds l ties) = some d) : ∀ i j, i < nV l → j < nV l → -17179869180 ≤ d i j ∧ d i j ≤ 17179869180 := fw_tame (fit hr).tame (Nat.le_refl _) h
end Go.Ev.Try

/-
  THE CLOCK DOOR SEAT (printed by wip/tools/port.py): the culprits, plain law (own work).
-/
import Derived.Test.YtflmadkbppnmcaaDoorDkBh
set_option linter.unusedSimpArgs false
set_option linter.unusedVariables false
namespace Go.Ev.Tryd
open Go Go.Ev

def tieAt (ties : List Tie) (i : Nat) : Tie := ties.getD i default
def restT (ties : List Tie) (acc : List Nat) (p : Nat) : List Tie := (acc ++ List.range' (p + 1) (ties.length - (p + 1))).map (tieAt ties)
def feas (l : List Event) (ties : List Tie) : Bool := (closed (nV l) (bds l ties)).isSome
def chosen (l : List Event) (ties : List Tie) : Nat → List Nat
  | 0 => []
  | p + 1 => if feas l (restT ties (chosen l ties p) p) = true then chosen l ties p ++ [p] else chosen l ties p
/-- What is left at step p. -/
def kept (l : List Event) (ties : List Tie) (p : Nat) : List Nat := chosen l ties p ++ List.range' p (ties.length - p)
def castL (l : List Nat) : List Int := l.map fun (i : Nat) => (i : Int)
@[simp] theorem castL_length (l : List Nat) : (castL l).length = l.length := by simp [castL]
end Go.Ev.Tryd

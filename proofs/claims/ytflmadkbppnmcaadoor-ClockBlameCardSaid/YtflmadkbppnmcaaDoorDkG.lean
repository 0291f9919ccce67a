/-
  WHAT THE EVALUATOR IS TOLD, printed by wip/tools/gen_g.py (own work).
-/
import Derived.Test.YtflmadkbppnmcaaDoorDkTy
import Derived.Test.YtflmadkbppnmcaaDoorEvI
namespace Go.Ev.Tryd
open Go Go.Ev Go.Proofs

def liveOf (f r : Nat) : Option (List Nat) :=
  if f = 5 ∧ r = 19 then some [3, 7, 76, 77] else
  if f = 5 ∧ r = 9 then some [3, 4, 7, 45, 46, 47] else
  if f = 7 ∧ r = 20 then some [4, 5, 8, 9, 13, 70, 71] else
  if f = 7 ∧ r = 12 then some [4, 5, 6, 8, 9, 33, 34] else
  if f = 7 ∧ r = 5 then some [4, 5, 6, 23] else
  if f = 14 ∧ r = 17 then some [0, 1, 9, 11, 12, 44, 45, 46] else
  if f = 14 ∧ r = 14 then some [0, 1, 9, 11] else
  if f = 14 ∧ r = 9 then some [0, 1, 9, 31, 32] else
  if f = 15 ∧ r = 11 then some [6, 25, 26, 27] else
  if f = 15 ∧ r = 3 then some [0, 3, 9, 10, 11] else
  if f = 17 ∧ r = 14 then some [10, 11, 46, 47, 48] else
  if f = 17 ∧ r = 9 then some [9, 10, 11, 34, 35, 36] else
  if f = 18 ∧ r = 22 then some [3, 98, 99, 100] else
  if f = 18 ∧ r = 14 then some [1, 2, 3, 11, 58, 59, 60] else
  if f = 18 ∧ r = 8 then some [0, 1, 2, 3, 11, 45, 46, 47] else
  if f = 19 ∧ r = 3 then some [1, 5, 8, 9, 10] else
  if f = 20 ∧ r = 4 then some [0, 1, 12, 13] else
  if f = 23 ∧ r = 12 then some [0, 52, 53, 54] else
  if f = 23 ∧ r = 4 then some [0, 1, 23, 24, 25] else
  if f = 25 ∧ r = 3 then some [0, 1, 7, 9, 10] else
  if f = 26 ∧ r = 3 then some [3, 6, 7, 8] else
  if f = 29 ∧ r = 11 then some [6, 25, 26, 27] else
  if f = 29 ∧ r = 3 then some [0, 3, 9, 10, 11] else
  if f = 30 ∧ r = 3 then some [0, 1, 6, 7, 8] else
  if f = 32 ∧ r = 4 then some [0, 23, 24] else
  if f = 33 ∧ r = 27 then some [7, 11, 101, 102, 103] else
  if f = 33 ∧ r = 21 then some [1, 5, 7, 11, 69, 70, 71] else
  if f = 33 ∧ r = 16 then some [0, 1, 5, 6, 7, 10] else
  if f = 33 ∧ r = 9 then some [0, 1, 5, 6, 7, 8, 29, 30, 42, 43] else
  if f = 33 ∧ r = 5 then some [0, 1, 5, 6, 7, 29, 30] else
  if f = 34 ∧ r = 8 then some [0, 3, 4, 7, 8, 12, 13, 17, 18] else
  if f = 34 ∧ r = 5 then some [0, 3, 7, 8, 12, 13] else
  if f = 34 ∧ r = 2 then some [0, 7, 8] else
  if f = 36 ∧ r = 9 then some [0, 3, 4, 5] else
  if f = 36 ∧ r = 4 then some [0, 3] else
  if f = 43 ∧ r = 2 then some [0, 1, 2, 3, 8, 9] else
  if f = 48 ∧ r = 1 then some [0, 1, 4] else
  if f = 49 ∧ r = 11 then some [0, 1, 3, 4, 10, 11, 12, 13, 14, 15, 16] else
  if f = 49 ∧ r = 18 then some [0, 1, 3, 4, 10, 11, 12, 13, 17] else
  if f = 51 ∧ r = 4 then some [0, 1, 2, 6, 7] else
  if f = 51 ∧ r = 1 then some [0, 1, 2, 6] else
  if f = 52 ∧ r = 8 then some [0, 6, 7, 10] else
  if f = 52 ∧ r = 4 then some [0, 6, 7, 8, 9] else
  if f = 53 ∧ r = 5 then some [0, 1, 6, 7, 8, 9] else
  if f = 55 ∧ r = 2 then some [0, 6, 7] else
  if f = 56 ∧ r = 20 then some [0, 1, 2, 7, 8, 10] else
  if f = 56 ∧ r = 14 then some [0, 1, 2, 7, 8, 9] else
  if f = 56 ∧ r = 5 then some [0, 1, 2, 7, 8] else
  if f = 56 ∧ r = 3 then some [0, 1, 2, 7, 8] else
  if f = 57 ∧ r = 5 then some [0, 1, 9, 10] else
  if f = 57 ∧ r = 3 then some [0, 1, 9, 10] else
  if f = 58 ∧ r = 15 then some [0, 1, 10, 11] else
  if f = 58 ∧ r = 13 then some [0, 1, 10, 11] else
  if f = 58 ∧ r = 5 then some [0, 1, 10, 11] else
  if f = 58 ∧ r = 3 then some [0, 1, 10, 11] else
  if f = 65 ∧ r = 1 then some [0, 2, 3, 8] else
  none
def wide : List Nat := [35, 36, 27, 37, 28, 34, 41, 50, 21]
/-! ### Events, ties, marks -/
structure Event where
  clock : ByteArray
  show' : Int
  wide' : Int
def eventE : Enc Event := ⟨fun e => [.str e.clock, .int .i64 e.show', .int .i64 e.wide'], 3, fun _ => rfl, fun a v h => by simp at h; rcases h with h | h | h <;> subst h <;> rfl⟩
instance : eventE.Own := ⟨fun _ => rfl, fun _ => rfl⟩
instance : Inhabited Event := ⟨⟨ByteArray.empty, 0, 0⟩⟩
@[simp] theorem eventE_k : eventE.k = 3 := rfl
theorem eventE_f (e : Event) : eventE.f e = [.str e.clock, .int .i64 e.show', .int .i64 e.wide'] := rfl
structure Tie where
  a : Int
  b : Int
  low : Int
  high : Int
deriving DecidableEq, Inhabited
def tieE : Enc Tie := ⟨fun e => [.int .i64 e.a, .int .i64 e.b, .int .i64 e.low, .int .i64 e.high], 4, fun _ => rfl, fun a v h => by simp at h; rcases h with h | h | h | h <;> subst h <;> rfl⟩
instance : tieE.Own := ⟨fun _ => rfl, fun _ => rfl⟩
@[simp] theorem tieE_k : tieE.k = 4 := rfl
theorem tieE_f (e : Tie) : tieE.f e = [.int .i64 e.a, .int .i64 e.b, .int .i64 e.low, .int .i64 e.high] := rfl

def clockOrc (f : Nat) (a : List V) (H : Heap) : Option (V × Heap) := if f = 35 then sortSOrc a H else none
def Γ : Env := { glob := fun _ => none, plain := fun f => !(wide.contains f), live := liveOf, orc := clockOrc, keep := fun f _ => f == 33 || f == 34 }
@[simp] theorem Γ_plain (f : Nat) : Γ.plain f = !([35, 36, 27, 37, 28, 34, 41, 50, 21].contains f) := rfl
@[simp] theorem Γ_live (f r : Nat) : Γ.live f r = liveOf f r := rfl
@[simp] theorem Γ_cold (f r : Nat) : Γ.cold f r = false := rfl
@[simp] theorem Γ_keep (f r : Nat) : Γ.keep f r = (f == 33 || f == 34) := rfl
end Go.Ev.Tryd

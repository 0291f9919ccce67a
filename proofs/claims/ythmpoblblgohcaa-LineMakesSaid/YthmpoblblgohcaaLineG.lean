/-
  WHAT THE EVALUATOR IS TOLD, printed by wip/tools/gen_g.py (own work).
-/
import Derived.Test.YthmpoblblgohcaaLineTy
import Derived.Test.YthmpoblblgohcaaEvE
import Derived.Test.YthmpoblblgohcaaEvH
namespace Go.Ev.Try
open Go Go.Ev Go.Proofs

def liveOf (f r : Nat) : Option (List Nat) :=
  if f = 3 ∧ r = 9 then some [3, 5, 7, 8, 10, 11, 55, 56, 57] else
  if f = 6 ∧ r = 14 then some [7, 11, 12, 75, 76, 77] else
  if f = 6 ∧ r = 6 then some [1, 5, 7, 45, 46, 47] else
  if f = 7 ∧ r = 29 then some [16, 23, 25, 26, 27, 28, 29, 30, 189, 190, 191] else
  if f = 7 ∧ r = 25 then some [16, 23, 25, 189, 190, 191] else
  if f = 7 ∧ r = 13 then some [0, 1, 2, 7, 9, 11, 13, 14, 16, 19, 20, 108, 109, 110] else
  if f = 9 ∧ r = 4 then some [3, 4, 11, 12] else
  if f = 10 ∧ r = 6 then some [5, 6, 15, 16, 17] else
  if f = 11 ∧ r = 10 then some [0, 6, 7, 9, 10, 18, 19, 20, 24, 25, 26] else
  if f = 11 ∧ r = 6 then some [0, 6, 7, 18, 19, 20] else
  if f = 16 ∧ r = 3 then some [0, 4, 8, 9, 10] else
  if f = 17 ∧ r = 4 then some [0, 1, 12, 13] else
  if f = 21 ∧ r = 6 then some [4, 6, 7, 9, 10, 11] else
  if f = 21 ∧ r = 3 then some [4, 9, 10, 11] else
  if f = 23 ∧ r = 4 then some [0, 8, 9, 10] else
  if f = 24 ∧ r = 4 then some [0, 8, 9, 10] else
  if f = 26 ∧ r = 11 then some [6, 25, 26, 27] else
  if f = 26 ∧ r = 3 then some [0, 3, 9, 10, 11] else
  if f = 27 ∧ r = 8 then some [6, 18, 19, 20] else
  if f = 30 ∧ r = 10 then some [7, 8, 9, 33, 34, 35] else
  if f = 30 ∧ r = 3 then some [4, 12, 13, 14] else
  if f = 31 ∧ r = 4 then some [0, 3, 4, 7, 8, 9] else
  if f = 31 ∧ r = 2 then some [0, 3] else
  if f = 34 ∧ r = 9 then some [0, 3, 4, 5] else
  if f = 34 ∧ r = 4 then some [0, 3] else
  if f = 35 ∧ r = 2 then some [0, 1, 7, 8] else
  if f = 37 ∧ r = 6 then some [1, 7, 15, 16, 17] else
  if f = 40 ∧ r = 2 then some [0, 1, 7, 8] else
  if f = 41 ∧ r = 2 then some [0, 3, 7, 8] else
  if f = 42 ∧ r = 2 then some [22, 23, 24] else
  if f = 44 ∧ r = 3 then some [3, 6, 7, 8] else
  if f = 51 ∧ r = 2 then some [0, 1, 2, 3, 4, 10, 11] else
  if f = 56 ∧ r = 9 then some [0, 1, 2, 6, 7, 8] else
  if f = 56 ∧ r = 7 then some [0, 1, 2, 6] else
  if f = 56 ∧ r = 2 then some [0, 1, 2, 6, 7, 8] else
  if f = 57 ∧ r = 9 then some [0, 1, 2, 6, 7, 8] else
  if f = 57 ∧ r = 7 then some [0, 1, 2, 6] else
  if f = 57 ∧ r = 2 then some [0, 1, 2, 6, 7, 8] else
  if f = 58 ∧ r = 4 then some [0, 1, 2, 3, 8, 9] else
  if f = 58 ∧ r = 1 then some [0, 1, 2, 3, 8] else
  if f = 59 ∧ r = 8 then some [0, 3, 8, 9, 12] else
  if f = 59 ∧ r = 4 then some [0, 3, 8, 9, 10, 11] else
  if f = 60 ∧ r = 5 then some [0, 1, 8, 9, 10, 11] else
  if f = 62 ∧ r = 2 then some [0, 8, 9] else
  if f = 63 ∧ r = 20 then some [0, 1, 2, 3, 9, 10, 12] else
  if f = 63 ∧ r = 14 then some [0, 1, 2, 3, 9, 10, 11] else
  if f = 63 ∧ r = 5 then some [0, 1, 2, 3, 9, 10] else
  if f = 63 ∧ r = 3 then some [0, 1, 2, 3, 9, 10] else
  if f = 64 ∧ r = 5 then some [0, 1, 4, 11, 12] else
  if f = 64 ∧ r = 3 then some [0, 1, 4, 11, 12] else
  if f = 65 ∧ r = 15 then some [0, 1, 4, 12, 13] else
  if f = 65 ∧ r = 13 then some [0, 1, 4, 12, 13] else
  if f = 65 ∧ r = 5 then some [0, 1, 4, 12, 13] else
  if f = 65 ∧ r = 3 then some [0, 1, 4, 12, 13] else
  if f = 69 ∧ r = 33 then some [0, 1, 2, 3, 4, 18, 19, 20, 21, 22] else
  if f = 69 ∧ r = 21 then some [0, 14, 17] else
  if f = 69 ∧ r = 15 then some [0, 2, 4, 14, 15] else
  if f = 69 ∧ r = 9 then some [0, 10, 13] else
  if f = 69 ∧ r = 3 then some [0, 1, 4, 10, 11] else
  if f = 70 ∧ r = 4 then some [0, 1, 2, 3, 8, 9] else
  if f = 70 ∧ r = 1 then some [0, 1, 2, 3, 8] else
  if f = 71 ∧ r = 33 then some [0, 1, 2, 3, 4, 18, 19, 20, 21, 22] else
  if f = 71 ∧ r = 21 then some [0, 14, 17] else
  if f = 71 ∧ r = 15 then some [0, 2, 4, 14, 15] else
  if f = 71 ∧ r = 9 then some [0, 10, 13] else
  if f = 71 ∧ r = 3 then some [0, 1, 4, 10, 11] else
  if f = 72 ∧ r = 1 then some [0, 2, 3, 4, 10] else
  if f = 77 ∧ r = 1 then some [0, 2, 3] else
  if f = 78 ∧ r = 2 then some [0, 2, 4, 10, 11] else
  if f = 79 ∧ r = 2 then some [0, 2, 4, 10, 11] else
  if f = 81 ∧ r = 1 then some [0, 1, 2, 3, 10] else
  if f = 82 ∧ r = 1 then some [0, 1, 2, 3, 10] else
  none
def wide : List Nat := [28, 33, 34, 43, 46, 47, 49, 51, 53, 54, 56, 57, 58, 59, 60, 62, 63, 64, 65, 68, 69, 70, 71, 72, 74, 77, 78, 79, 81, 82]

/-! ### Marks, and how they are compared -/
structure Mark where
  id : Int
  low : Int
  high : Int
deriving DecidableEq, Inhabited
def markE : Enc Mark := ⟨fun e => [.int .i64 e.id, .int .i64 e.low, .int .i64 e.high], 3, fun _ => rfl, fun a v h => by simp at h; rcases h with h | h | h <;> subst h <;> rfl⟩
instance : markE.Own := ⟨fun _ => rfl, fun _ => rfl⟩
@[simp] theorem markE_k : markE.k = 3 := rfl
theorem markE_f (e : Mark) : markE.f e = [.int .i64 e.id, .int .i64 e.low, .int .i64 e.high] := rfl
def cmpI (a b : Int) : Int := if a < b then -1 else if b < a then 1 else 0
def orI3 : List Int → Int
  | [] => 0
  | x :: l => if x = 0 then orI3 l else x
def cmpM (a b : Mark) : Int := orI3 [cmpI a.low b.low, cmpI a.high b.high, cmpI a.id b.id]

/-- The world as the evaluator is told it, but for the oracle. -/
def Γo (o : Nat → List V → Heap → Option (V × Heap)) : Env := { glob := fun _ => none, plain := fun f => !(wide.contains f), live := liveOf, orc := o, keep := fun _ _ => false }
theorem Γo_plain (o) (f : Nat) : (Γo o).plain f = !([28, 33, 34, 43, 46, 47, 49, 51, 53, 54, 56, 57, 58, 59, 60, 62, 63, 64, 65, 68, 69, 70, 71, 72, 74, 77, 78, 79, 81, 82].contains f) := rfl
theorem Γo_live (o) (f r : Nat) : (Γo o).live f r = liveOf f r := rfl
theorem Γo_cold (o) (f r : Nat) : (Γo o).cold f r = false := rfl
theorem Γo_keep (o) (f r : Nat) : (Γo o).keep f r = false := rfl
/-- What the model answers itself. -/
def baseOrc (f : Nat) (a : List V) (H : Heap) : Option (V × Heap) := if f = 53 then overlapsOrc a H else none
/-- The sort by the shelf's contract, and Insert as it was walked. -/
noncomputable def lineOrc (f : Nat) (a : List V) (H : Heap) : Option (V × Heap) :=
  if f = 33 then sortOrc markE cmpM 25 a H else if f = 43 then insOrc markE 24 9 a H else baseOrc f a H
def Γb : Env := Γo baseOrc
noncomputable def Γ : Env := Γo lineOrc
@[simp] theorem Γ_plain (f : Nat) : Γ.plain f = !([28, 33, 34, 43, 46, 47, 49, 51, 53, 54, 56, 57, 58, 59, 60, 62, 63, 64, 65, 68, 69, 70, 71, 72, 74, 77, 78, 79, 81, 82].contains f) := rfl
@[simp] theorem Γ_live (f r : Nat) : Γ.live f r = liveOf f r := rfl
@[simp] theorem Γ_cold (f r : Nat) : Γ.cold f r = false := rfl
@[simp] theorem Γ_keep (f r : Nat) : Γ.keep f r = false := rfl
@[simp] theorem Γb_plain (f : Nat) : Γb.plain f = !([28, 33, 34, 43, 46, 47, 49, 51, 53, 54, 56, 57, 58, 59, 60, 62, 63, 64, 65, 68, 69, 70, 71, 72, 74, 77, 78, 79, 81, 82].contains f) := rfl
@[simp] theorem Γb_live (f r : Nat) : Γb.live f r = liveOf f r := rfl
@[simp] theorem Γb_cold (f r : Nat) : Γb.cold f r = false := rfl
@[simp] theorem Γb_keep (f r : Nat) : Γb.keep f r = false := rfl
end Go.Ev.Try

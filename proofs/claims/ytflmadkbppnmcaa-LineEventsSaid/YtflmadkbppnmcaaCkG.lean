import Derived.Test.YtflmadkbppnmcaaCkTy
import Derived.Test.YtflmadkbppnmcaaEvI
namespace Go.Ev.Try
open Go Go.Ev Go.Proofs
def liveOf (f r : Nat) : Option (List Nat) :=
  if f = 5 ∧ r = 19 then some [13, 114, 115, 116] else
  if f = 6 ∧ r = 18 then some [0, 1, 4, 5, 13, 14, 15, 16, 19, 20, 21, 115, 116, 117] else
  if f = 6 ∧ r = 12 then some [0, 1, 4, 5, 13, 14, 15, 16, 19, 20, 21, 93, 94, 95] else
  if f = 7 ∧ r = 9 then some [0, 5, 6, 7, 8, 9, 10, 33, 34] else
  if f = 9 ∧ r = 4 then some [0, 1, 12, 13] else
  if f = 10 ∧ r = 3 then some [3, 6, 7, 8] else
  if f = 11 ∧ r = 6 then some [3, 5, 6, 7, 8, 9] else
  if f = 11 ∧ r = 3 then some [3, 7, 8, 9] else
  if f = 12 ∧ r = 12 then some [0, 52, 53, 54] else
  if f = 12 ∧ r = 4 then some [0, 1, 23, 24, 25] else
  if f = 13 ∧ r = 16 then some [0, 53, 54, 55] else
  if f = 13 ∧ r = 9 then some [0, 1, 25, 26, 27, 39, 40, 41] else
  if f = 13 ∧ r = 4 then some [0, 1, 25, 26, 27] else
  if f = 14 ∧ r = 17 then some [0, 1, 9, 11, 12, 44, 45, 46] else
  if f = 14 ∧ r = 14 then some [0, 1, 9, 11] else
  if f = 14 ∧ r = 9 then some [0, 1, 9, 31, 32] else
  if f = 15 ∧ r = 13 then some [7, 8, 12, 14, 15] else
  if f = 15 ∧ r = 6 then some [6, 7, 8, 30, 31, 32] else
  if f = 16 ∧ r = 4 then some [0, 1, 12, 13] else
  if f = 17 ∧ r = 17 then some [12, 57, 58, 59] else
  if f = 17 ∧ r = 7 then some [0, 1, 5, 6, 7, 19, 20, 23, 24, 25] else
  if f = 17 ∧ r = 3 then some [0, 1, 5, 19, 20] else
  if f = 20 ∧ r = 14 then some [10, 11, 46, 47, 48] else
  if f = 20 ∧ r = 9 then some [9, 10, 11, 34, 35, 36] else
  if f = 21 ∧ r = 4 then some [0, 1, 12, 13] else
  if f = 22 ∧ r = 11 then some [6, 25, 26, 27] else
  if f = 22 ∧ r = 3 then some [0, 3, 9, 10, 11] else
  if f = 23 ∧ r = 22 then some [3, 98, 99, 100] else
  if f = 23 ∧ r = 14 then some [1, 2, 3, 11, 58, 59, 60] else
  if f = 23 ∧ r = 8 then some [0, 1, 2, 3, 11, 45, 46, 47] else
  if f = 25 ∧ r = 16 then some [7, 8, 9, 11, 62, 63, 64] else
  if f = 25 ∧ r = 11 then some [1, 6, 7, 8, 9, 11, 34, 35, 36] else
  if f = 25 ∧ r = 6 then some [0, 1, 6, 7, 8, 9, 10] else
  if f = 27 ∧ r = 6 then some [8, 20, 21, 22] else
  if f = 28 ∧ r = 6 then some [4, 6, 7, 9, 10, 11] else
  if f = 28 ∧ r = 3 then some [4, 9, 10, 11] else
  if f = 30 ∧ r = 4 then some [0, 1, 12, 13] else
  if f = 32 ∧ r = 9 then some [0, 3, 4, 5] else
  if f = 32 ∧ r = 4 then some [0, 3] else
  if f = 34 ∧ r = 4 then some [0, 23, 24] else
  if f = 35 ∧ r = 2 then some [0, 6, 7, 8] else
  if f = 38 ∧ r = 8 then some [0, 8, 9, 10, 21, 22, 24, 25, 26] else
  if f = 38 ∧ r = 5 then some [0, 8, 9, 21, 22] else
  if f = 39 ∧ r = 3 then some [0, 1, 7, 9, 10] else
  if f = 41 ∧ r = 3 then some [0, 1, 6, 7, 8] else
  if f = 44 ∧ r = 2 then some [0, 1, 7, 8] else
  if f = 46 ∧ r = 2 then some [22, 23, 24] else
  if f = 48 ∧ r = 4 then some [0, 8, 9, 10] else
  if f = 49 ∧ r = 2 then some [0, 1, 2, 3, 8, 9] else
  if f = 53 ∧ r = 27 then some [7, 11, 101, 102, 103] else
  if f = 53 ∧ r = 21 then some [1, 5, 7, 11, 69, 70, 71] else
  if f = 53 ∧ r = 16 then some [0, 1, 5, 6, 7, 10] else
  if f = 53 ∧ r = 9 then some [0, 1, 5, 6, 7, 8, 29, 30, 42, 43] else
  if f = 53 ∧ r = 5 then some [0, 1, 5, 6, 7, 29, 30] else
  if f = 54 ∧ r = 8 then some [0, 3, 4, 7, 8, 12, 13, 17, 18] else
  if f = 54 ∧ r = 5 then some [0, 3, 7, 8, 12, 13] else
  if f = 54 ∧ r = 2 then some [0, 7, 8] else
  if f = 60 ∧ r = 9 then some [0, 3, 4, 5] else
  if f = 60 ∧ r = 4 then some [0, 3] else
  if f = 61 ∧ r = 4 then some [0, 8, 9, 10] else
  if f = 65 ∧ r = 4 then some [0, 1, 2, 6, 7] else
  if f = 65 ∧ r = 1 then some [0, 1, 2, 6] else
  if f = 66 ∧ r = 8 then some [0, 6, 7, 10] else
  if f = 66 ∧ r = 4 then some [0, 6, 7, 8, 9] else
  if f = 67 ∧ r = 5 then some [0, 1, 6, 7, 8, 9] else
  if f = 69 ∧ r = 2 then some [0, 6, 7] else
  if f = 70 ∧ r = 20 then some [0, 1, 2, 7, 8, 10] else
  if f = 70 ∧ r = 14 then some [0, 1, 2, 7, 8, 9] else
  if f = 70 ∧ r = 5 then some [0, 1, 2, 7, 8] else
  if f = 70 ∧ r = 3 then some [0, 1, 2, 7, 8] else
  if f = 71 ∧ r = 5 then some [0, 1, 9, 10] else
  if f = 71 ∧ r = 3 then some [0, 1, 9, 10] else
  if f = 72 ∧ r = 15 then some [0, 1, 10, 11] else
  if f = 72 ∧ r = 13 then some [0, 1, 10, 11] else
  if f = 72 ∧ r = 5 then some [0, 1, 10, 11] else
  if f = 72 ∧ r = 3 then some [0, 1, 10, 11] else
  if f = 79 ∧ r = 2 then some [0, 1, 2, 3, 4, 10, 11] else
  if f = 80 ∧ r = 3 then some [3, 6, 7, 8] else
  if f = 83 ∧ r = 1 then some [0, 2, 3, 8] else
  if f = 88 ∧ r = 1 then some [0, 2, 3] else
  if f = 90 ∧ r = 4 then some [0, 1, 2, 3, 8, 9] else
  if f = 90 ∧ r = 1 then some [0, 1, 2, 3, 8] else
  if f = 91 ∧ r = 8 then some [0, 3, 8, 9, 12] else
  if f = 91 ∧ r = 4 then some [0, 3, 8, 9, 10, 11] else
  if f = 92 ∧ r = 5 then some [0, 1, 8, 9, 10, 11] else
  if f = 94 ∧ r = 2 then some [0, 8, 9] else
  if f = 95 ∧ r = 20 then some [0, 1, 2, 3, 9, 10, 12] else
  if f = 95 ∧ r = 14 then some [0, 1, 2, 3, 9, 10, 11] else
  if f = 95 ∧ r = 5 then some [0, 1, 2, 3, 9, 10] else
  if f = 95 ∧ r = 3 then some [0, 1, 2, 3, 9, 10] else
  if f = 96 ∧ r = 5 then some [0, 1, 4, 11, 12] else
  if f = 96 ∧ r = 3 then some [0, 1, 4, 11, 12] else
  if f = 97 ∧ r = 15 then some [0, 1, 4, 12, 13] else
  if f = 97 ∧ r = 13 then some [0, 1, 4, 12, 13] else
  if f = 97 ∧ r = 5 then some [0, 1, 4, 12, 13] else
  if f = 97 ∧ r = 3 then some [0, 1, 4, 12, 13] else
  if f = 98 ∧ r = 1 then some [0, 2, 3] else
  if f = 100 ∧ r = 1 then some [0, 2, 3, 4, 10] else
  none
def wide : List Nat := [31, 32, 33, 37, 40, 42, 47, 51, 54, 58, 60, 63, 76, 89]
structure Event where
  clock : ByteArray
  show' : Int
  wide' : Int
def eventE : Enc Event := ⟨fun e => [.str e.clock, .int .i64 e.show', .int .i64 e.wide'], 3, fun _ => rfl, fun a v h => by simp at h; rcases h with h | h | h <;> subst h <;> rfl⟩
instance : eventE.Own := ⟨fun _ => rfl, fun _ => rfl⟩
instance : Inhabited Event := ⟨⟨ByteArray.empty, 0, 0⟩⟩
@[simp] theorem eventE_k : eventE.k = 3 := rfl
theorem eventE_f (e : Event) : eventE.f e = [.str e.clock, .int .i64 e.show', .int .i64 e.wide'] := rfl
structure Tie where
  a : Int
  b : Int
  low : Int
  high : Int
deriving DecidableEq, Inhabited
def tieE : Enc Tie := ⟨fun e => [.int .i64 e.a, .int .i64 e.b, .int .i64 e.low, .int .i64 e.high], 4, fun _ => rfl, fun a v h => by simp at h; rcases h with h | h | h | h <;> subst h <;> rfl⟩
instance : tieE.Own := ⟨fun _ => rfl, fun _ => rfl⟩
@[simp] theorem tieE_k : tieE.k = 4 := rfl
structure Mark where
  id : Int
  low : Int
  high : Int
deriving DecidableEq, Inhabited
def markE : Enc Mark := ⟨fun e => [.int .i64 e.id, .int .i64 e.low, .int .i64 e.high], 3, fun _ => rfl, fun a v h => by simp at h; rcases h with h | h | h <;> subst h <;> rfl⟩
instance : markE.Own := ⟨fun _ => rfl, fun _ => rfl⟩
@[simp] theorem markE_k : markE.k = 3 := rfl
theorem markE_f (e : Mark) : markE.f e = [.int .i64 e.id, .int .i64 e.low, .int .i64 e.high] := rfl
def cmpI (a b : Int) : Int := if a < b then -1 else if b < a then 1 else 0
def orI3 : List Int → Int
  | [] => 0
  | x :: l => if x = 0 then orI3 l else x
def cmpM (a b : Mark) : Int := orI3 [cmpI a.low b.low, cmpI a.high b.high, cmpI a.id b.id]
def Γo (o : Nat → List V → Heap → Option (V × Heap)) : Env := { glob := fun _ => none, plain := fun f => !(wide.contains f), live := liveOf, orc := o, keep := fun f _ => f == 53 || f == 54 }
def baseOrc (f : Nat) (a : List V) (H : Heap) : Option (V × Heap) := if f = 51 then overlapsOrc a H else if f = 63 then overlapsOrc a H else none
noncomputable def clockOrc (f : Nat) (a : List V) (H : Heap) : Option (V × Heap) :=
  if f = 33 then insOrc strE 16 9 a H else if f = 31 then sortSOrc a H else if f = 58 then sortOrc markE cmpM 59 a H else if f = 47 then insOrc markE 24 9 a H else baseOrc f a H
noncomputable def Γ : Env := Γo clockOrc
def Γb : Env := Γo baseOrc
@[simp] theorem Γ_plain (f : Nat) : Γ.plain f = !([31, 32, 33, 37, 40, 42, 47, 51, 54, 58, 60, 63, 76, 89].contains f) := rfl
@[simp] theorem Γ_live (f r : Nat) : Γ.live f r = liveOf f r := rfl
@[simp] theorem Γ_cold (f r : Nat) : Γ.cold f r = false := rfl
@[simp] theorem Γ_keep (f r : Nat) : Γ.keep f r = (f == 53 || f == 54) := rfl
@[simp] theorem Γb_keep (f r : Nat) : Γb.keep f r = (f == 53 || f == 54) := rfl
@[simp] theorem Γb_plain (f : Nat) : Γb.plain f = !([31, 32, 33, 37, 40, 42, 47, 51, 54, 58, 60, 63, 76, 89].contains f) := rfl
@[simp] theorem Γb_live (f r : Nat) : Γb.live f r = liveOf f r := rfl
@[simp] theorem Γb_cold (f r : Nat) : Γb.cold f r = false := rfl
end Go.Ev.Try

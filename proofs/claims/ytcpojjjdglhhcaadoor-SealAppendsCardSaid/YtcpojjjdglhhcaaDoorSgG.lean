/-
  THE SEAL SEAT, SealChecks and SealAppends: what the evaluator is told (with the shelf's Itoa and Join); entries and states as rows of values (own work).
-/
import Derived.Test.YtcpojjjdglhhcaaDoorSealTy
import Derived.Test.YtcpojjjdglhhcaaDoorEv34
namespace Go.Ev.Tryd
open Go Go.Ev Go.Proofs

def pow10 : List V := (List.range 20).map fun i => .int .u64 ((10 : Int) ^ i)
def db32 : List V := ([0,1,28,2,29,14,24,3,30,22,20,15,25,17,4,8,31,27,13,23,21,19,16,7,26,12,18,6,11,5,10,9] : List Int).map (V.int .u8)
def db64 : List V := ([0,1,56,2,57,49,28,3,61,58,42,50,38,29,17,4,62,47,59,36,45,43,51,22,53,39,33,30,24,18,12,5,63,55,48,27,60,41,37,16,46,35,44,21,52,32,23,11,54,26,40,15,34,20,31,10,25,14,19,9,13,8,7,6] : List Int).map (V.int .u8)
def globs (g : Nat) : Option (List V) := if g = 0 then some pow10 else if g = 2 then some db32 else if g = 3 then some db64 else none
def liveOf (f r : Nat) : Option (List Nat) :=
  if f = 8 then (if r = 6 then some [0, 2, 3, 4, 5, 6, 15, 16, 17] else none)
  else if f = 9 then (if r = 6 then some [2, 3, 7, 19, 20, 21] else none)
  else if f = 7 then (if r = 7 then some [2, 3, 4, 5, 6, 7, 9, 32, 33] else none)
  else if f = 28 then (if r = 3 then some [3, 6, 7, 8] else none)
  else if f = 4 then (if r = 5 then some [3, 4, 5, 6, 16, 17, 18] else none)
  else if f = 32 then (if r = 2 then some [0, 1, 7, 8] else none)
  else if f = 38 then (if r = 4 then some [0, 23, 24] else none)
  else if f = 42 then (if r = 11 then some [1, 3, 4, 10, 12, 13, 14, 15, 16] else none)
  else if f = 14 then (if r = 6 then some [0, 2, 5, 6, 14, 15, 16] else none)
  else if f = 19 then (if r = 4 then some [1, 5, 6, 7, 8, 17, 18, 19] else none)
  else if f = 30 then (if r = 2 then some [0, 6, 7, 8] else none)
  else if f = 6 then (if r = 28 then some [3, 11, 12, 13, 14, 15, 16, 93, 94, 95] else if r = 5 then some [3, 21, 22, 23] else none)
  else if f = 20 then (if r = 4 then some [0, 1, 12, 13] else none)
  else if f = 21 then (if r = 4 then some [0, 1, 12, 13] else none)
  else none
def sealOrc (f : Nat) (a : List V) (H : Heap) : Option (V × Heap) := if f = 27 then itoaOrc a H else if f = 29 then joinOrc a H else none
def Γ : Env := { glob := globs, plain := fun f => !([22, 41, 35, 36, 37, 44, 45].contains f), live := liveOf, orc := sealOrc, mono := false }
@[simp] theorem Γ_plain (f : Nat) : Γ.plain f = !([22, 41, 35, 36, 37, 44, 45].contains f) := rfl
@[simp] theorem Γ_live (f r : Nat) : Γ.live f r = liveOf f r := rfl
theorem Γ_orc (f : Nat) (a : List V) (H : Heap) : Γ.orc f a H = sealOrc f a H := rfl
@[simp] theorem Γ_cold (f r : Nat) : Γ.cold f r = false := rfl

structure Entry where
  kind : Int
  who : ByteArray
  to : ByteArray
  time : Int
  root : Int
  sum : Int
structure State where
  holder : ByteArray
  opened : Bool
  root : Int
  time : Int
def entryE : Enc Entry := ⟨fun e => [.int .i64 e.kind, .str e.who, .str e.to, .int .i64 e.time, .int .u64 e.root, .int .u64 e.sum], 6, fun _ => rfl, fun a v h => by simp at h; rcases h with h | h | h | h | h | h <;> subst h <;> rfl⟩
def stateE : Enc State := ⟨fun e => [.str e.holder, .bool e.opened, .int .u64 e.root, .int .i64 e.time], 4, fun _ => rfl, fun a v h => by simp at h; rcases h with h | h | h | h <;> subst h <;> rfl⟩
instance : entryE.Own := ⟨fun _ => rfl, fun _ => rfl⟩
@[simp] theorem entryE_k : entryE.k = 6 := rfl
instance : stateE.Own := ⟨fun _ => rfl, fun _ => rfl⟩
@[simp] theorem stateE_k : stateE.k = 4 := rfl
theorem entryE_f (e : Entry) : entryE.f e = [.int .i64 e.kind, .str e.who, .str e.to, .int .i64 e.time, .int .u64 e.root, .int .u64 e.sum] := rfl
theorem stateE_f (e : State) : stateE.f e = [.str e.holder, .bool e.opened, .int .u64 e.root, .int .i64 e.time] := rfl
def state0 : State := ⟨⟨#[]⟩, false, 0, 0⟩
end Go.Ev.Tryd

/-
  WHAT THE EVALUATOR IS TOLD, printed by wip/tools/gen_g.py (own work).
-/
import Derived.Test.YtnalmdnfoicokaaRdTy
import Derived.Test.YtnalmdnfoicokaaEvE
namespace Go.Ev.Try
open Go Go.Ev Go.Proofs

def liveOf (f r : Nat) : Option (List Nat) :=
  if f = 3 ∧ r = 9 then some [7, 8, 10, 94, 95, 96] else
  if f = 4 ∧ r = 6 then some [0, 1, 3, 6, 9, 10, 11, 36, 37, 38] else
  if f = 6 ∧ r = 25 then some [4, 7, 21, 22, 23, 24] else
  if f = 6 ∧ r = 13 then some [1, 4, 7, 9, 10, 16, 18, 19, 116, 117] else
  if f = 8 ∧ r = 12 then some [0, 4, 8, 9, 50, 51] else
  if f = 8 ∧ r = 4 then some [0, 1, 4, 22, 23, 24] else
  if f = 9 ∧ r = 4 then some [1, 7, 8, 18, 19] else
  if f = 10 ∧ r = 11 then some [3, 4, 9, 45, 46, 47] else
  if f = 15 ∧ r = 7 then some [1, 4, 5, 6, 7, 8, 15, 16, 17, 24, 25, 26] else
  if f = 15 ∧ r = 3 then some [1, 4, 5, 15, 16, 17] else
  if f = 18 ∧ r = 15 then some [5, 8, 9] else
  if f = 18 ∧ r = 12 then some [5] else
  if f = 18 ∧ r = 6 then some [5, 16, 17, 18] else
  if f = 20 ∧ r = 7 then some [3, 25, 26, 27] else
  if f = 22 ∧ r = 6 then some [1, 21, 22, 23] else
  if f = 23 ∧ r = 6 then some [0, 3] else
  if f = 24 ∧ r = 15 then some [2, 4, 9, 10, 50, 51, 52] else
  if f = 24 ∧ r = 7 then some [1, 2, 4, 23, 24, 25] else
  if f = 25 ∧ r = 11 then some [6, 25, 26, 27] else
  if f = 25 ∧ r = 3 then some [0, 3, 9, 10, 11] else
  if f = 27 ∧ r = 8 then some [2, 3, 7, 8] else
  if f = 28 ∧ r = 4 then some [0, 1, 5, 6, 7] else
  if f = 29 ∧ r = 11 then some [6, 25, 26, 27] else
  if f = 29 ∧ r = 3 then some [3, 10, 11, 12] else
  if f = 31 ∧ r = 5 then some [0, 1, 5, 6] else
  if f = 36 ∧ r = 4 then some [0, 5, 6, 7] else
  if f = 40 ∧ r = 3 then some [3, 6, 7, 8] else
  if f = 43 ∧ r = 4 then some [1, 2, 15, 16, 17] else
  if f = 45 ∧ r = 2 then some [0, 3] else
  if f = 48 ∧ r = 11 then some [6, 25, 26, 27] else
  if f = 48 ∧ r = 3 then some [0, 3, 9, 10, 11] else
  if f = 49 ∧ r = 3 then some [0, 3, 7, 8] else
  if f = 56 ∧ r = 2 then some [0, 1, 7, 8] else
  if f = 57 ∧ r = 8 then some [0, 5, 6, 7, 29, 30] else
  if f = 57 ∧ r = 3 then some [0, 5, 6] else
  if f = 59 ∧ r = 11 then some [6, 25, 26, 27] else
  if f = 59 ∧ r = 3 then some [0, 3, 9, 10, 11] else
  if f = 60 ∧ r = 11 then some [3, 5, 6, 7] else
  if f = 60 ∧ r = 8 then some [3, 5] else
  if f = 60 ∧ r = 3 then some [0, 3, 9, 10] else
  none
def wide : List Nat := [8, 10, 15, 24, 31, 36, 41, 45, 54, 57, 60, 65]

/-! ### Spans, pieces -/
structure Span where
  off : Int
  len : Int
deriving DecidableEq, Inhabited
def spanE : Enc Span := ⟨fun e => [.int .i64 e.off, .int .i64 e.len], 2, fun _ => rfl, fun a v h => by simp at h; rcases h with h | h <;> subst h <;> rfl⟩
instance : spanE.Own := ⟨fun _ => rfl, fun _ => rfl⟩
@[simp] theorem spanE_k : spanE.k = 2 := rfl
theorem spanE_f (e : Span) : spanE.f e = [.int .i64 e.off, .int .i64 e.len] := rfl
/-- What a right span is. -/
def Span.ok (s : Span) : Prop := 0 ≤ s.off ∧ 0 ≤ s.len ∧ s.len ≤ 65536 ∧ s.off ≤ 65536 - s.len
def Span.good (s : Span) : Prop := s.ok ∧ 0 < s.len
instance (s : Span) : Decidable s.ok := by unfold Span.ok; infer_instance
instance (s : Span) : Decidable s.good := by unfold Span.good; infer_instance
abbrev GSpan := { s : Span // s.good }
instance : Inhabited GSpan := ⟨⟨⟨0, 1⟩, by decide⟩⟩
def goodE : Enc GSpan := ⟨fun e => [.int .i64 e.1.off, .int .i64 e.1.len], 2, fun _ => rfl, fun a v h => by simp at h; rcases h with h | h <;> subst h <;> rfl⟩
instance : goodE.Own := ⟨fun _ => rfl, fun _ => rfl⟩
def cmpG (a b : GSpan) : Int := a.1.off - b.1.off

/-- A piece: hidden or not, its bytes (nil or not), its hash. -/
structure Piece where
  hid : Bool
  z : Bool
  bs : List Int
  hash : Int
deriving DecidableEq, Inhabited
def pieceE : Enc Piece := ⟨fun e => [.bool e.hid, roV e.z e.bs.length (flatE (intE .u8) e.bs), .int .u64 e.hash], 3, fun _ => rfl, fun a v h => by
  simp at h
  rcases h with h | h | h <;> subst h
  · rfl
  · unfold roV; split <;> rfl
  · rfl⟩
@[simp] theorem pieceE_k : pieceE.k = 3 := rfl
theorem pieceE_f (e : Piece) : pieceE.f e = [.bool e.hid, roV e.z e.bs.length (flatE (intE .u8) e.bs), .int .u64 e.hash] := rfl

def coldOf (f r : Nat) : Bool := (f == 8 && r == 12) || (f == 24 && r == 15) || (f == 10 && r == 11) || (f == 60 && r == 8) || (f == 20 && r == 7)

/-- The world as the evaluator is told it, but for the oracle. -/
def Γo (o : Nat → List V → Heap → Option (V × Heap)) : Env := { glob := fun _ => none, plain := fun f => !(wide.contains f), live := liveOf, orc := o, cold := coldOf }
theorem Γo_plain (o) (f : Nat) : (Γo o).plain f = !([8, 10, 15, 24, 31, 36, 41, 45, 54, 57, 60, 65].contains f) := rfl
theorem Γo_live (o) (f r : Nat) : (Γo o).live f r = liveOf f r := rfl
theorem Γo_cold (o) (f r : Nat) : (Γo o).cold f r = coldOf f r := rfl
/-- The sort by the shelf's contract. -/
noncomputable def redactOrc (f : Nat) (a : List V) (H : Heap) : Option (V × Heap) := if f = 54 then sortOrc goodE cmpG 55 a H else none
noncomputable def Γ : Env := Γo redactOrc
@[simp] theorem Γ_plain (f : Nat) : Γ.plain f = !([8, 10, 15, 24, 31, 36, 41, 45, 54, 57, 60, 65].contains f) := rfl
@[simp] theorem Γ_live (f r : Nat) : Γ.live f r = liveOf f r := rfl
@[simp] theorem Γ_cold (f r : Nat) : Γ.cold f r = coldOf f r := rfl
end Go.Ev.Try

/-
  WHAT THE EVALUATOR IS TOLD, printed by wip/tools/gen_g.py (own work).
-/
import Derived.Test.YtmcakfjbefelgaaDoorAkTy
import Derived.Test.YtmcakfjbefelgaaDoorEvM
import Derived.Test.YtmcakfjbefelgaaDoorEvL
import Derived.Test.YtmcakfjbefelgaaDoorEvK
namespace Go.Ev.Tryd
open Go Go.Ev Go.Proofs

def liveOf (f r : Nat) : Option (List Nat) :=
  if f = 3 ∧ r = 6 then some [1, 4, 5, 9, 10, 11, 16, 17, 18] else
  if f = 3 ∧ r = 2 then some [1, 9, 10, 11] else
  if f = 6 ∧ r = 6 then some [10, 11, 36, 37, 38] else
  if f = 7 ∧ r = 10 then some [11, 13, 60, 61] else
  if f = 8 ∧ r = 3 then some [3, 7, 8, 9] else
  if f = 10 ∧ r = 19 then some [1, 55, 56, 57] else
  if f = 10 ∧ r = 12 then some [1, 42, 43, 44] else
  if f = 10 ∧ r = 3 then some [1, 3, 12, 13, 14] else
  if f = 11 ∧ r = 19 then some [1, 54, 55, 56] else
  if f = 11 ∧ r = 12 then some [1, 41, 42, 43] else
  if f = 11 ∧ r = 3 then some [1, 3, 12, 13, 14] else
  if f = 13 ∧ r = 17 then some [2, 3, 8] else
  if f = 13 ∧ r = 3 then some [2, 3, 5, 10, 11, 12] else
  if f = 15 ∧ r = 20 then some [9, 77, 78, 79] else
  if f = 15 ∧ r = 15 then some [4, 9, 64, 65, 66] else
  if f = 15 ∧ r = 30 then some [4, 7, 15, 90, 91, 92, 97, 98, 99] else
  if f = 15 ∧ r = 27 then some [4, 7, 90, 91, 92] else
  if f = 15 ∧ r = 3 then some [2, 3, 4, 7, 28, 29] else
  if f = 17 ∧ r = 10 then some [2, 3, 6, 7, 8, 10, 15, 16, 17, 22, 23, 24, 28, 29, 30] else
  if f = 17 ∧ r = 7 then some [2, 3, 6, 7, 8, 15, 16, 17, 22, 23, 24] else
  if f = 17 ∧ r = 3 then some [2, 3, 5, 15, 16, 17] else
  if f = 19 ∧ r = 20 then some [0, 5, 6, 7, 17, 18, 101, 102] else
  if f = 19 ∧ r = 13 then some [0, 5, 6, 7, 8, 9, 17, 18, 60, 61] else
  if f = 19 ∧ r = 4 then some [0, 5, 6, 17, 18] else
  if f = 23 ∧ r = 8 then some [2, 3, 4, 28, 29] else
  if f = 23 ∧ r = 4 then some [2, 3, 4, 16, 17] else
  if f = 24 ∧ r = 2 then some [0, 1, 9, 10, 11] else
  if f = 25 ∧ r = 4 then some [0, 1, 12, 13] else
  if f = 26 ∧ r = 5 then some [13, 14, 15] else
  if f = 27 ∧ r = 3 then some [3, 9, 10, 11] else
  if f = 31 ∧ r = 3 then some [3, 7, 8, 9] else
  if f = 36 ∧ r = 4 then some [0, 1, 12, 13] else
  if f = 41 ∧ r = 3 then some [0, 1, 2, 3, 4, 20, 21] else
  if f = 43 ∧ r = 5 then some [0, 2, 7, 28, 29, 30] else
  if f = 44 ∧ r = 5 then some [0, 1, 5, 6] else
  if f = 45 ∧ r = 2 then some [0, 2, 3, 9, 10, 11] else
  if f = 46 ∧ r = 4 then some [1, 2, 15, 16, 17] else
  if f = 50 ∧ r = 4 then some [0, 5, 6, 7] else
  if f = 54 ∧ r = 2 then some [0, 6, 7, 8] else
  if f = 55 ∧ r = 2 then some [1, 2, 10, 11, 12] else
  if f = 56 ∧ r = 2 then some [0, 1, 7, 8] else
  if f = 57 ∧ r = 41 then some [0, 1, 5, 13, 14, 15, 16, 17] else
  if f = 57 ∧ r = 20 then some [0, 1, 5, 6, 7, 8, 9, 10] else
  if f = 58 ∧ r = 2 then some [0, 1, 7, 8] else
  if f = 60 ∧ r = 2 then some [0, 1, 7, 8] else
  if f = 65 ∧ r = 11 then some [0, 1, 2, 3, 9, 10] else
  if f = 66 ∧ r = 2 then some [0, 1, 7, 8] else
  if f = 68 ∧ r = 8 then some [0, 5, 6, 7, 29, 30] else
  if f = 68 ∧ r = 3 then some [0, 5, 6] else
  if f = 76 ∧ r = 11 then some [0, 1, 5, 6, 7, 8, 10] else
  if f = 76 ∧ r = 5 then some [0, 1, 5, 6, 7, 8, 9] else
  if f = 77 ∧ r = 15 then some [0, 1, 5, 6, 7, 8, 9, 10] else
  if f = 78 ∧ r = 2 then some [0, 1, 7, 8] else
  if f = 79 ∧ r = 6 then some [0, 1, 6, 7] else
  if f = 80 ∧ r = 6 then some [0, 1, 5] else
  if f = 82 ∧ r = 4 then some [0, 23, 24] else
  if f = 86 ∧ r = 8 then some [4, 6, 7, 8] else
  if f = 86 ∧ r = 3 then some [0, 4, 5] else
  if f = 89 ∧ r = 11 then some [0, 1, 5, 6, 7, 8, 10] else
  if f = 89 ∧ r = 5 then some [0, 1, 5, 6, 7, 8, 9] else
  if f = 90 ∧ r = 2 then some [2, 4] else
  if f = 95 ∧ r = 1 then some [0, 1, 4] else
  if f = 96 ∧ r = 11 then some [0, 1, 3, 4, 10, 11, 12, 13, 14, 15, 16] else
  if f = 96 ∧ r = 18 then some [0, 1, 3, 4, 10, 11, 12, 13, 17] else
  if f = 99 ∧ r = 8 then some [4, 6, 7, 8] else
  if f = 99 ∧ r = 3 then some [0, 4, 5] else
  if f = 106 ∧ r = 2 then some [1, 2, 10] else
  none
def wide : List Nat := [27, 41, 44, 48, 50, 51, 68]
/-! ### Conditions, links, questions -/
inductive Cond where
  | mk (op : Int) (s : ByteArray) (low high : Int) (z : Bool) (kids : List Cond)
namespace Cond
def op : Cond → Int | mk o _ _ _ _ _ => o
def s : Cond → ByteArray | mk _ s _ _ _ _ => s
def low : Cond → Int | mk _ _ l _ _ _ => l
def high : Cond → Int | mk _ _ _ h _ _ => h
def z : Cond → Bool | mk _ _ _ _ z _ => z
def kids : Cond → List Cond | mk _ _ _ _ _ k => k
end Cond
instance : Inhabited Cond := ⟨.mk 0 ByteArray.empty 0 0 true []⟩
mutual
def encC : Cond → List V
  | .mk o s l h z ks => [.int .i64 o, .str s, .int .i64 l, .int .i64 h, roV z ks.length (encCs ks)]
def encCs : List Cond → List V
  | [] => []
  | c :: l => encC c ++ encCs l
end
theorem encC_len (c : Cond) : (encC c).length = 5 := by cases c; simp [encC]
theorem encC_flat (c : Cond) : ∀ v ∈ encC c, v.flat = true := by
  cases c with
  | mk o s l h z ks =>
    intro v hv
    simp only [encC, List.mem_cons, List.not_mem_nil, or_false] at hv
    rcases hv with rfl | rfl | rfl | rfl | rfl
    · rfl
    · rfl
    · rfl
    · rfl
    · unfold roV; split <;> rfl
def condE : Enc Cond := ⟨encC, 5, encC_len, encC_flat⟩
@[simp] theorem condE_k : condE.k = 5 := rfl
theorem encCs_flat (l : List Cond) : encCs l = flatE condE l := by
  induction l with
  | nil => rfl
  | cons c l ih => rw [encCs, ih]; rfl
theorem condE_f (c : Cond) : condE.f c = [.int .i64 c.op, .str c.s, .int .i64 c.low, .int .i64 c.high, roV c.z c.kids.length (flatE condE c.kids)] := by
  cases c with
  | mk o s l h z ks => show encC _ = _; rw [encC, encCs_flat]; rfl
structure Link where
  op : Int
  a : Int
  b : Int
deriving DecidableEq, Inhabited
def linkE : Enc Link := ⟨fun e => [.int .i64 e.op, .int .i64 e.a, .int .i64 e.b], 3, fun _ => rfl, fun a v h => by simp at h; rcases h with h | h | h <;> subst h <;> rfl⟩
instance : linkE.Own := ⟨fun _ => rfl, fun _ => rfl⟩
@[simp] theorem linkE_k : linkE.k = 3 := rfl
/-- What the model answers itself. -/
def askOrc (f : Nat) (a : List V) (H : Heap) : Option (V × Heap) := if f = 92 then countOrc a H else if f = 98 then idxByteOrc a H else none
def Γ : Env := { glob := fun _ => none, plain := fun f => !(wide.contains f), live := liveOf, orc := askOrc, keep := fun _ _ => false }
@[simp] theorem Γ_plain (f : Nat) : Γ.plain f = !([27, 41, 44, 48, 50, 51, 68].contains f) := rfl
@[simp] theorem Γ_live (f r : Nat) : Γ.live f r = liveOf f r := rfl
@[simp] theorem Γ_cold (f r : Nat) : Γ.cold f r = false := rfl
@[simp] theorem Γ_keep (f r : Nat) : Γ.keep f r = false := rfl
end Go.Ev.Tryd

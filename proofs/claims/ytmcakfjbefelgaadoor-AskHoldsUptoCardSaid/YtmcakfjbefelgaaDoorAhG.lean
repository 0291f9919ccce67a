/-
  WHAT THE EVALUATOR IS TOLD FOR FINDINGS: the variable bytealg.MaxLen, and the contracts of strings.Contains and bytes.Contains (own work).
-/
import Derived.Test.YtmcakfjbefelgaaDoorAkG
import Derived.Test.YtmcakfjbefelgaaDoorEvN
namespace Go.Ev.Tryd.Hd
open Go Go.Ev Go.Proofs

def orc (f : Nat) (a : List V) (H : Heap) : Option (V × Heap) := if f = 92 then countOrc a H else if f = 98 then idxByteOrc a H else if f = 35 then containsOrc a H else if f = 32 then bcontainsOrc a H else none
def Γ (mx : Int) : Env := { glob := fun g => if g = 0 then some [.int .i64 mx] else none, plain := fun f => !(wide.contains f), live := liveOf, orc := orc, keep := fun _ _ => false, mono := false }
section
variable (mx : Int)
@[simp] theorem Γ_plain (f : Nat) : (Γ mx).plain f = !([27, 41, 44, 48, 50, 51, 68].contains f) := rfl
@[simp] theorem Γ_live (f r : Nat) : (Γ mx).live f r = liveOf f r := rfl
@[simp] theorem Γ_cold (f r : Nat) : (Γ mx).cold f r = false := rfl
@[simp] theorem Γ_keep (f r : Nat) : (Γ mx).keep f r = false := rfl
@[simp] theorem Γ_glob (g : Nat) : (Γ mx).glob g = if g = 0 then some [.int .i64 mx] else none := rfl
@[simp] theorem Γ_mono : (Γ mx).mono = false := rfl
@[simp] theorem Γ_orc : (Γ mx).orc = orc := rfl
end

/-! ### Findings -/
structure Span where
  off : Int
  len : Int
deriving DecidableEq, Inhabited
def spanE : Enc Span := ⟨fun e => [.int .i64 e.off, .int .i64 e.len], 2, fun _ => rfl, fun a v h => by simp at h; rcases h with h | h <;> subst h <;> rfl⟩
instance : spanE.Own := ⟨fun _ => rfl, fun _ => rfl⟩
@[simp] theorem spanE_k : spanE.k = 2 := rfl
theorem spanE_f (e : Span) : spanE.f e = [.int .i64 e.off, .int .i64 e.len] := rfl
structure Finding where
  kind : ByteArray
  zv : Bool
  via : List ByteArray
  za : Bool
  at_ : List Span
  zb : Bool
  bytes : List Int
  text : ByteArray
  low : Int
  high : Int
instance : Inhabited Finding := ⟨⟨.empty, true, [], true, [], true, [], .empty, 0, 0⟩⟩
def findV (f : Finding) : List V := [.str f.kind, roV f.zv f.via.length (flatE strE f.via), roV f.za f.at_.length (flatE spanE f.at_), roV f.zb f.bytes.length (flatE (intE .u8) f.bytes), .str f.text, .int .i64 f.low, .int .i64 f.high]
theorem findV_flat (f : Finding) : ∀ v ∈ findV f, v.flat = true := by
  intro v hv
  simp only [findV, List.mem_cons, List.not_mem_nil, or_false] at hv
  rcases hv with rfl | rfl | rfl | rfl | rfl | rfl | rfl
  · rfl
  · unfold roV; split <;> rfl
  · unfold roV; split <;> rfl
  · unfold roV; split <;> rfl
  · rfl
  · rfl
  · rfl
def findE : Enc Finding := ⟨findV, 7, fun _ => rfl, findV_flat⟩
@[simp] theorem findE_k : findE.k = 7 := rfl
theorem findE_f (f : Finding) : findE.f f = [.str f.kind, roV f.zv f.via.length (flatE strE f.via), roV f.za f.at_.length (flatE spanE f.at_), roV f.zb f.bytes.length (flatE (intE .u8) f.bytes), .str f.text, .int .i64 f.low, .int .i64 f.high] := rfl
end Go.Ev.Tryd.Hd

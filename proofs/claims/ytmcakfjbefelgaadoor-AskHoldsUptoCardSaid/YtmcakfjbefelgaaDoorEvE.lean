/-
  SORTING BY THE SHELF's CONTRACT, AS AN ORACLE OF THE EVALUATOR (own work).
-/
import Derived.Test.YtmcakfjbefelgaaDoorEvD
import Derived.Shelf.SlSortCmp.WholeK
set_option linter.unusedSimpArgs false
set_option linter.unusedVariables false
namespace Go.Ev
open Go

/-- The value that a flat own cell stands for. -/
def valOf : V → Value
  | .bool b => .bool b
  | .int k n => .int k n
  | .str s => .string s
  | .nilf => .nilFunc
  | .nili => .nilIface
  | _ => undef
def Enc.vs {α : Type} (E : Enc α) (a : α) : List Value := (E.f a).map valOf

section
variable {P : Program} {w0 : World} {B : Nat} {e : Emb} {H : Heap} {w : World} {Γ : Env}

/-! ### Worlds grown -/
theorem Stp.grow (hs : HS w0 B e H w) (os : Array Obj) (n : Nat) : Stp w0 B e H w e H { w with heap := w.heap ++ os, drawn := w.drawn + n } := by
  have hget : ∀ b, b < w.heap.size → (w.heap ++ os)[b]? = w.heap[b]? := fun b hb => by rw [Array.getElem?_append, if_pos hb]
  refine ⟨⟨fun b hb => ?_, ?_, fun id eb he => ?_, fun id k hk => ?_, hs.inj, fun b o hb => ?_, hs.frl⟩, fun _ _ => rfl, Nat.le_refl _, fun _ b _ hb => ⟨b, hb⟩, fun id eb hi he => absurd (hs.dom id eb he).1 (by omega), fun b hb _ => hget b hb, ?_, rfl, rfl, rfl, fun _ _ h => h, fun _ _ h => .inl h, fun _ => Nat.le_add_right _ _⟩
  · have := hs.szB; show (w.heap ++ os)[b]? = _; rw [hget b (by omega)]; exact hs.old b hb
  · show B ≤ (w.heap ++ os).size; have := hs.szB; simp; omega
  · show id < H.length ∧ B ≤ eb.b ∧ eb.b < (w.heap ++ os).size; have := hs.dom id eb he; simp; omega
  · obtain ⟨eb, o, he, ho, hok⟩ := hs.live id k hk
    exact ⟨eb, o, he, by show (w.heap ++ os)[eb.b]? = _; rw [hget _ (hs.dom id eb he).2.2]; exact ho, hok⟩
  · show (w.heap ++ os)[b]? = _; rw [hget _ (hs.frzlt hb)]; exact hs.frz b o hb
  · show w.heap.size ≤ (w.heap ++ os).size; simp
/-! ### The flat row in the shelf's words -/
/-! ### slices.SortFunc as an oracle -/
open Classical in
end

end Go.Ev

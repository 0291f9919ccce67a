/-
  THE REDACT SEAT: pieces (own work, plain).
-/
import Derived.Test.YtnalmdnfoicokaaRdE
import Derived.Test.YtnalmdnfoicokaaRdH
import Derived.Test.YtnalmdnfoicokaaRdC1
set_option linter.unusedSimpArgs false
set_option linter.unusedVariables false
set_option maxRecDepth 100000
set_option maxHeartbeats 4000000
namespace Go.Ev.Try
open Go Go.Ev Go.Proofs

@[simp high] theorem blk_flat_leaves {α : Type} (E : Enc α) [E.Own] (m : Nat) (l : List α) (e : Bool) : Blk.leavesM m (.cells (flatE E l) e) = [] := by
  cases e <;> simp
theorem blocksN_pos (n : Nat) : 1 ≤ blocksN n := by unfold blocksN; omega
/-- The bytes of a block. -/
def blockL (bs : List Int) (i : Nat) : List Int := (bs.drop (i * 64)).take 64
open Classical in
/-- Is a byte of a block in one of the places? -/
noncomputable def touched (l : List Span) (n i : Nat) : Bool := decide (common l [⟨(i : Int) * 64, placeL n i⟩])
theorem touched_iff (l : List Span) (n i : Nat) : touched l n i = true ↔ common l [⟨(i : Int) * 64, placeL n i⟩] := by unfold touched; simp
noncomputable def pieceOf (zb : Bool) (bs : List Int) (T : Nat → Bool) (i : Nat) : Piece := if T i then ⟨true, true, [], hash (blockL bs i)⟩ else ⟨false, zb && bs.isEmpty, blockL bs i, 0⟩
noncomputable def piecesOf (zb : Bool) (bs : List Int) (T : Nat → Bool) : List Piece := (List.range (blocksN bs.length)).map (pieceOf zb bs T)
theorem piecesOf_length (zb : Bool) (bs : List Int) (T : Nat → Bool) : (piecesOf zb bs T).length = blocksN bs.length := by simp [piecesOf]
theorem block_facts (bs : List Int) (i : Nat) (h : i < blocksN bs.length) : ∃ q : Nat, placeL bs.length i = q ∧ q ≤ 64 ∧ i * 64 + q ≤ bs.length ∧ (bs.drop (i * 64)).take q = blockL bs i ∧ (blockL bs i).length = q ∧ (1 ≤ bs.length → 1 ≤ q) := by
  have hi : i * 64 ≤ bs.length := by unfold blocksN at h; omega
  refine ⟨min 64 (bs.length - i * 64), by unfold placeL; omega, by omega, by omega, ?_, by simp [blockL], fun h1 => by unfold blocksN at h; omega⟩
  unfold blockL
  rw [← List.take_take, List.take_of_length_le (i := bs.length - i * 64)]
  simp
end Go.Ev.Try

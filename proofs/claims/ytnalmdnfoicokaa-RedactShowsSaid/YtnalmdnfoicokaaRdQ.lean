/-
  THE REDACT SEAT: what RedactJoins says of pieces (own work, plain).
-/
import Derived.Test.YtnalmdnfoicokaaRdP
set_option linter.unusedSimpArgs false
set_option linter.unusedVariables false
set_option maxRecDepth 100000
set_option maxHeartbeats 4000000
namespace Go.Ev.Try
open Go Go.Ev Go.Proofs

theorem drop_pieces (L : List Piece) (j : Nat) (h : j < L.length) : List.drop (j * 3) (flatE pieceE L) = .bool L[j].hid :: roV L[j].z L[j].bs.length (flatE (intE .u8) L[j].bs) :: .int .u64 L[j].hash :: flatE pieceE (L.drop (j + 1)) := by
  rw [drop_flatE' (n := 3) pieceE rfl, List.drop_eq_getElem_cons h]; rfl
theorem piecesOf_at (zb : Bool) (bs : List Int) (T : Nat → Bool) (i : Nat) (h : i < (piecesOf zb bs T).length) : (piecesOf zb bs T)[i] = pieceOf zb bs T i := by
  simp [piecesOf]
theorem piecesOf_ok (zb : Bool) (bs : List Int) (T : Nat → Bool) : allOk bs.length (piecesOf zb bs T) = true := by
  rw [allOk_iff]
  intro i hi
  rw [piecesOf_at]
  rw [piecesOf_length] at hi
  obtain ⟨q, hq, _, _, _, hbl, _⟩ := block_facts bs i hi
  unfold pieceOf pieceOk
  cases T i with
  | true => simp
  | false => simp [hbl, hq]
theorem piecesOf_hash (zb : Bool) (bs : List Int) (T : Nat → Bool) : (piecesOf zb bs T).map hashOf = (List.range (blocksN bs.length)).map fun i => hash (blockL bs i) := by
  unfold piecesOf
  rw [List.map_map]
  refine List.map_congr_left fun i _ => ?_
  simp only [Function.comp]
  unfold hashOf pieceOf
  by_cases h : T i = true <;> simp [h]
theorem joinL_length (ps qs : List Piece) : (joinL ps qs).length = ps.length := by simp [joinL]
theorem joinL_at (ps qs : List Piece) (i : Nat) (h : i < (joinL ps qs).length) (hp : i < ps.length) (hq : i < qs.length) : (joinL ps qs)[i] = joinP ps[i] qs[i] := by
  simp [joinL, List.getD_eq_getElem?_getD, hp, hq]
end Go.Ev.Try

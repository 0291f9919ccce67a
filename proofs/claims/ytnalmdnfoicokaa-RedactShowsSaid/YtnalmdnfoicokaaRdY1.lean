/-
  THE REDACT SEAT: what RedactRoots says of pieces (own work, plain).
-/
import Derived.Test.YtnalmdnfoicokaaRdQ
import Derived.Test.YtnalmdnfoicokaaRdS
import Derived.Test.YtnalmdnfoicokaaRdX
set_option linter.unusedSimpArgs false
set_option linter.unusedVariables false
set_option maxRecDepth 100000
set_option maxHeartbeats 4000000
namespace Go.Ev.Try
open Go Go.Ev Go.Proofs

theorem getD_at {α : Type} (l : List α) (i : Nat) (d : α) (h : i < l.length) : l.getD i d = l[i] := by
  rw [List.getD_eq_getElem?_getD, List.getElem?_eq_getElem h]; rfl
theorem common_app (a b c : List Span) : common (a ++ b) c ↔ common a c ∨ common b c := by
  unfold common
  simp only [covered_append]
  constructor
  · rintro ⟨x, h1 | h1, h2⟩
    · exact .inl ⟨x, h1, h2⟩
    · exact .inr ⟨x, h1, h2⟩
  · rintro (⟨x, h1, h2⟩ | ⟨x, h1, h2⟩)
    · exact ⟨x, .inl h1, h2⟩
    · exact ⟨x, .inr h1, h2⟩
theorem touched_app (a b : List Span) (n i : Nat) : touched (a ++ b) n i = (touched a n i || touched b n i) := by
  rw [Bool.eq_iff_iff, Bool.or_eq_true, touched_iff, touched_iff, touched_iff, common_app]
theorem hideL_length (ps : List Piece) (T : Nat → Bool) : (hideL ps T).length = ps.length := by simp [hideL]
theorem hideL_at (ps : List Piece) (T : Nat → Bool) (i : Nat) (h : i < (hideL ps T).length) (hp : i < ps.length) : (hideL ps T)[i] = hideP (T i) ps[i] := by
  simp [hideL, List.getD_eq_getElem?_getD, hp]
theorem hide_at (zb : Bool) (bs : List Int) (T U : Nat → Bool) (i : Nat) (h : i < (hideL (piecesOf zb bs T) U).length) : (hideL (piecesOf zb bs T) U)[i] = hideP (U i) (pieceOf zb bs T i) := by
  rw [hideL_at _ _ i h (by simpa [hideL_length] using h), piecesOf_at]
theorem hide_same (zb : Bool) (bs : List Int) (T U W : Nat → Bool) (hW : ∀ i, W i = (T i || U i)) : sameAll (hideL (piecesOf zb bs T) U) (piecesOf zb bs W) = true := by
  rw [sameAll_iff]
  refine ⟨by simp [hideL_length, piecesOf_length], fun i h h' => ?_⟩
  rw [hide_at _ _ _ _ i h, piecesOf_at]
  unfold sameP hideP cloneP pieceOf
  rw [hW]
  cases T i <;> cases U i <;> simp [eqBytes_refl]
theorem block_byte (bs : List Int) (k : Nat) (h : k < bs.length) : (blockL bs (k / 64)).getD (k % 64) 0 = bs[k] := by
  unfold blockL
  have h1 := Nat.div_add_mod k 64
  have h2 : k % 64 < 64 := Nat.mod_lt _ (by omega)
  rw [List.getD_eq_getElem?_getD, List.getElem?_take_of_lt h2, List.getElem?_drop, show k / 64 * 64 + k % 64 = k by omega, List.getElem?_eq_getElem h]; rfl
theorem pieces_byte (zb : Bool) (bs : List Int) (T : Nat → Bool) (k : Nat) (hk : k < bs.length) (ht : T (k / 64) = false) : byteP (piecesOf zb bs T) k = bs[k] := by
  have hl : k / 64 < (piecesOf zb bs T).length := by simp [piecesOf_length]; unfold blocksN; omega
  unfold byteP
  rw [getD_at _ _ _ hl, piecesOf_at]
  unfold pieceOf
  simp only [ht, Bool.false_eq_true, if_false]
  exact block_byte bs k hk
theorem pieces_hid (zb : Bool) (bs : List Int) (T : Nat → Bool) (k : Nat) (h : k / 64 < blocksN bs.length) : hidAt (piecesOf zb bs T) k = T (k / 64) := by
  have hl : k / 64 < (piecesOf zb bs T).length := by simpa [piecesOf_length] using h
  unfold hidAt
  rw [List.getD_eq_getElem?_getD, List.getElem?_eq_getElem hl, Option.getD_some, piecesOf_at]
  unfold pieceOf
  cases T (k / 64) <;> simp
end Go.Ev.Try

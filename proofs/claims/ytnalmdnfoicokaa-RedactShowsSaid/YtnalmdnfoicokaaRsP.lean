/-
  THE REDACT SEAT: what RedactShows says of pieces (own work, plain).
-/
import Derived.Test.YtnalmdnfoicokaaRdY1
import Derived.Test.YtnalmdnfoicokaaRsB
set_option linter.unusedSimpArgs false
set_option linter.unusedVariables false
set_option maxRecDepth 100000
set_option maxHeartbeats 1000000
namespace Go.Ev.Try
open Go Go.Ev Go.Proofs

/-- Where the first is hidden, the second; up to a place. -/
def mixN (ps qs : List Piece) (n : Nat) : List Piece := (List.range ps.length).map fun i => if i < n ∧ (ps.getD i default).hid = true then qs.getD i default else ps.getD i default
@[simp] theorem mixN_length (ps qs : List Piece) (n : Nat) : (mixN ps qs n).length = ps.length := by simp [mixN]
theorem mixN_zero (ps qs : List Piece) : mixN ps qs 0 = ps := by
  refine List.ext_getElem (by simp) fun i h1 h2 => ?_
  simp [mixN, List.getD_eq_getElem?_getD, List.getElem?_eq_getElem h2]
theorem mixN_at (ps qs : List Piece) (n i : Nat) (h : i < (mixN ps qs n).length) (hp : i < ps.length) (hq : i < qs.length) : (mixN ps qs n)[i] = if i < n ∧ ps[i].hid = true then qs[i] else ps[i] := by
  simp [mixN, List.getD_eq_getElem?_getD, List.getElem?_eq_getElem hp, List.getElem?_eq_getElem hq]
theorem mixN_next (ps qs : List Piece) (n : Nat) (hp : n < ps.length) (hq : qs.length = ps.length) :
    mixN ps qs (n + 1) = if ps[n].hid = true then (mixN ps qs n).take n ++ qs[n]'(by omega) :: (mixN ps qs n).drop (n + 1) else mixN ps qs n := by
  have hset : ∀ x : Piece, (mixN ps qs n).take n ++ x :: (mixN ps qs n).drop (n + 1) = (mixN ps qs n).set n x := fun x => by
    rw [List.set_eq_take_append_cons_drop, if_pos (by simp; omega)]
  split
  · rename_i hh
    rw [hset]
    refine List.ext_getElem (by simp) fun i h1 h2 => ?_
    have hi : i < ps.length := by simpa using h1
    rw [mixN_at _ _ _ i h1 hi (by omega), List.getElem_set]
    by_cases e : n = i
    · subst e; simp [hh]
    · rw [if_neg e, mixN_at _ _ _ i (by simpa using hi) hi (by omega)]
      have : (i < n + 1) ↔ (i < n) := by omega
      simp only [this]
  · rename_i hh
    refine List.ext_getElem (by simp) fun i h1 h2 => ?_
    have hi : i < ps.length := by simpa using h1
    rw [mixN_at _ _ _ i h1 hi (by omega), mixN_at _ _ _ i h2 hi (by omega)]
    by_cases e : n = i
    · subst e; simp [hh]
    · have : (i < n + 1) ↔ (i < n) := by omega
      simp only [this]
theorem mix_join (zb : Bool) (bs : List Int) (T U : Nat → Bool) : sameAll (joinL (piecesOf zb bs T) (piecesOf zb bs U)) (mixN (piecesOf zb bs T) (piecesOf zb bs U) (blocksN bs.length)) = true := by
  rw [sameAll_iff]
  refine ⟨by simp [joinL_length], fun i h h' => ?_⟩
  have h1 : i < blocksN bs.length := by simpa [joinL_length, piecesOf_length] using h
  have hp : i < (piecesOf zb bs T).length := by simpa [piecesOf_length] using h1
  have hq : i < (piecesOf zb bs U).length := by simpa [piecesOf_length] using h1
  rw [joinL_at _ _ i h hp hq, mixN_at _ _ _ i h' hp hq, piecesOf_at, piecesOf_at]
  unfold joinP cloneP sameP
  by_cases g : (pieceOf zb bs T i).hid = true
  · simp [g, h1, eqBytes_refl]
  · simp [g, eqBytes_refl]
/-- What is read is what there is. -/
theorem bytes_read (zb : Bool) (bs : List Int) (T : Nat → Bool) (off len : Nat) (h : off + len ≤ bs.length) (hv : ∀ k, off ≤ k → k < off + len → hidAt (piecesOf zb bs T) k = false) : bytesR (piecesOf zb bs T) off len = (bs.drop off).take len := by
  refine List.ext_getElem (by simp; omega) fun i h1 h2 => ?_
  have hi : i < len := by simpa using h1
  have hb : (off + i) / 64 < blocksN bs.length := by unfold blocksN; omega
  have hT : T ((off + i) / 64) = false := by rw [← pieces_hid zb bs T (off + i) hb]; exact hv _ (by omega) (by omega)
  have := pieces_byte zb bs T (off + i) (by omega) hT
  simp [bytesR, this]
end Go.Ev.Try

/-
  THE REDACT SEAT: the reference's SamePieces; blacked (own work).
-/
import Derived.Test.YtnalmdnfoicokaaRmC
set_option linter.unusedSimpArgs false
set_option linter.unusedVariables false
set_option maxRecDepth 100000
set_option maxHeartbeats 1000000
namespace Go.Ev.Try
open Go Go.Ev Go.Proofs

/-! ### SamePieces -/
theorem same47 (p q : Piece) {k : Nat} : evF Try.prog Γ (k + 1) 47 [.agg [.bool p.hid, roV p.z p.bs.length (flatE (intE .u8) p.bs), .int .u64 p.hash], .agg [.bool q.hid, roV q.z q.bs.length (flatE (intE .u8) q.bs), .int .u64 q.hash]] [] = some (.bool (sameP p q), []) := by
  have h : ∀ a b : List Int, ((strOfNums a).toList == (strOfNums b).toList) = decide (strOfNums a = strOfNums b) := fun a b => by rw [Bool.eq_iff_iff]; simp
  rw [b47 (fun _ _ => rfl) _ _ (by simp)]
  unfold sameP eqBytes
  cases h1 : (p.hid == q.hid) with
  | false => simp -implicitDefEqProofs [h1]
  | true =>
    by_cases h2 : p.hash = q.hash
    · simp -implicitDefEqProofs [h1, h2, conv_ro, binStr, h]
    · simp -implicitDefEqProofs [h1, h2]
theorem samePieces_ok (a b : Int) (ps qs : List Piece) (zp zq : Bool) (hl : ps.length ≤ 1000000) {k : Nat} (hk : ps.length + 10 < k) :
    evF Try.prog Γ (k + 1) 17 [.agg [.int .i64 a, roV zp ps.length (flatE pieceE ps)], .agg [.int .i64 b, roV zq qs.length (flatE pieceE qs)]] [] = some (.bool (decide (a = b) && sameAll ps qs), []) := by
  obtain ⟨k, rfl⟩ : ∃ j, k = j + 3 := ⟨k - 3, by omega⟩
  have c := eqFunc_ok 47 rfl ps qs zp zq hl (k := k + 2) (by omega) (fun p q => same47 p q (k := k + 1))
  rw [b17 (fun _ _ => rfl) _ _ (by simp)]
  by_cases h : a = b
  · simp -implicitDefEqProofs [h, c]
  · simp -implicitDefEqProofs [h]
/-! ### blacked -/
theorem two46 {k : Nat} : evF Try.prog Γ (k + 1) 46 [] [] = some (.sl 0 0 128 1, [some (.cells (flatE (intE .u8) twoL) true)]) := by
  rw [b46 (fun _ _ => rfl) _ _ (by simp)]
  simp -implicitDefEqProofs [twoL, zeros, List.replicate, bytesI]
theorem blacked16 {k : Nat} (hk : 300000 < k) : evF Try.prog Γ (k + 1) 16 [] [] = some (.bool true, []) := by
  obtain ⟨k, rfl⟩ : ∃ j, k = j + 1 := ⟨k - 1, by omega⟩
  have c2 := two46 (k := k)
  have hl : twoL.length = 128 := by simp [twoL]
  have cm := make_oe twoL [⟨64, 1⟩] 0 rfl (by omega) (by omega) (by simp) (fun s hs => by simp at hs; subst hs; rw [hl]; decide) (k := k) (by omega)
  have h0 : touched [⟨64, 1⟩] twoL.length 0 = false := by
    rw [← Bool.not_eq_true, touched_iff]
    rintro ⟨x, ⟨s, hs, _, h1, h2⟩, ⟨t, ht, _, h3, h4⟩⟩
    simp at hs ht
    subst hs ht
    unfold Span.e placeL at *
    simp at *
    omega
  have h1 : touched [⟨64, 1⟩] twoL.length 1 = true := by
    rw [touched_iff, hl]
    exact ⟨64, ⟨⟨64, 1⟩, by simp, by decide, by decide, by decide⟩, ⟨_, List.mem_singleton.2 rfl, by decide, by decide, by decide⟩⟩
  have hb : blocksN twoL.length = 2 := by rw [hl]; rfl
  have hP : piecesOf false twoL (touched [⟨64, 1⟩] twoL.length) = [pieceOf false twoL (touched [⟨64, 1⟩] twoL.length) 0, pieceOf false twoL (touched [⟨64, 1⟩] twoL.length) 1] := by
    unfold piecesOf; rw [hb]; rfl
  have p0 : (pieceOf false twoL (touched [⟨64, 1⟩] twoL.length) 0).hid = false := by unfold pieceOf; rw [h0]; rfl
  have p1 : (pieceOf false twoL (touched [⟨64, 1⟩] twoL.length) 1).hid = true := by unfold pieceOf; rw [h1]; rfl
  rw [hP, hb] at cm
  clear hP h0 h1
  rw [hl] at cm p0 p1
  generalize pieceOf false twoL (touched [⟨64, 1⟩] 128) 0 = q0 at *
  generalize pieceOf false twoL (touched [⟨64, 1⟩] 128) 1 = q1 at *
  clear hl hb
  generalize twoL = B at *
  rw [b16 (fun _ _ => rfl) _ _ (by simp)]
  simp [pieceE_f, p0, p1, spanE_f] at cm
  simp -implicitDefEqProofs [c2, cm]
end Go.Ev.Try

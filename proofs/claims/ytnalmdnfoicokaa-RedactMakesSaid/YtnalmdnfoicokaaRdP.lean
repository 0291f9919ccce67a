/-
  THE REDACT SEAT: exhibits that cannot be joined; blacked (own work).
-/
import Derived.Test.YtnalmdnfoicokaaRdO
import Derived.Test.YtnalmdnfoicokaaRdJ2
set_option linter.unusedSimpArgs false
set_option linter.unusedVariables false
set_option maxRecDepth 100000
set_option maxHeartbeats 4000000
namespace Go.Ev.Try
open Go Go.Ev Go.Proofs

theorem join_clash (n m : Nat) (ps qs : List Piece) (c d : Nat) (hn : n ≤ 65536) (hm : m ≤ 65536) (hne : n ≠ m) (hc : blocksN n = c + 1) (hd : blocksN m = d + 1) (hp : ps.length = c + 1) (hq : qs.length = d + 1) (ap : allOk n ps = true) (aq : allOk m qs = true) {k : Nat} (hk : 5000 < k) :
    evF Try.prog Γ (k + 1) 10 [.agg [.int .i64 n, .sl 0 0 (c + 1) 3], .agg [.int .i64 m, .sl 1 0 (d + 1) 3]] [some (.cells (flatE pieceE ps) false), some (.cells (flatE pieceE qs) false)] =
      some (.tup [.agg [.int .i64 0, .nils], .int .i64 17], [some (.cells (flatE pieceE ps) false), some (.cells (flatE pieceE qs) false), none]) := by
  obtain ⟨k, rfl⟩ : ∃ j, k = j + 1 := ⟨k - 1, by omega⟩
  have cp := root_ok n ps false hn (by omega) ap (k := k) (by omega)
  have cq := root_ok m qs false hm (by omega) aq (k := k) (by omega)
  rw [hp] at cp
  rw [hq] at cq
  simp only [roV_false] at cp cq
  have tp : List.take ((c + 1) * 3) (flatE pieceE ps) = flatE pieceE ps := by rw [List.take_of_length_le]; simp [hp]
  have tq : List.take ((d + 1) * 3) (flatE pieceE qs) = flatE pieceE qs := by rw [List.take_of_length_le]; simp [hq]
  have hne2 : ¬ (n : Int) = m := by omega
  rw [b10 (fun _ _ => rfl) _ _ (by simp)]
  simp -implicitDefEqProofs [cp, cq, tp, tq, hne, hne2]

/-! ### blacked -/
def twoL : List Int := [97, 98] ++ zeros 126
theorem two_ok {k : Nat} : evF Try.prog Γ (k + 1) 42 [] [] = some (.sl 0 0 128 1, [some (.cells (flatE (intE .u8) twoL) true)]) := by
  rw [b42 (fun _ _ => rfl) _ _ (by simp)]
  simp -implicitDefEqProofs [twoL, zeros, List.replicate, bytesI]
theorem blacked_ok {k : Nat} (hk : 300000 < k) : evF Try.prog Γ (k + 1) 11 [] [] = some (.bool true, []) := by
  obtain ⟨k, rfl⟩ : ∃ j, k = j + 1 := ⟨k - 1, by omega⟩
  have c2 := two_ok (k := k)
  have hl : twoL.length = 128 := by simp [twoL]
  have cm := make_oe twoL [⟨64, 1⟩] 0 rfl (by omega) (by omega) (by simp) (fun s hs => by simp at hs; subst hs; rw [hl]; decide) (k := k) (by omega)
  have h0 : touched [⟨64, 1⟩] twoL.length 0 = false := by
    rw [← Bool.not_eq_true, touched_iff]
    rintro ⟨x, ⟨s, hs, _, h1, h2⟩, ⟨t, ht, _, h3, h4⟩⟩
    simp at hs ht
    subst hs ht
    unfold Span.e placeL at *
    simp at *
    omega
  have h1 : touched [⟨64, 1⟩] twoL.length 1 = true := by
    rw [touched_iff, hl]
    exact ⟨64, ⟨⟨64, 1⟩, by simp, by decide, by decide, by decide⟩, ⟨_, List.mem_singleton.2 rfl, by decide, by decide, by decide⟩⟩
  have hb : blocksN twoL.length = 2 := by rw [hl]; rfl
  have hP : piecesOf false twoL (touched [⟨64, 1⟩] twoL.length) = [pieceOf false twoL (touched [⟨64, 1⟩] twoL.length) 0, pieceOf false twoL (touched [⟨64, 1⟩] twoL.length) 1] := by
    unfold piecesOf; rw [hb]; rfl
  have p0 : (pieceOf false twoL (touched [⟨64, 1⟩] twoL.length) 0).hid = false := by unfold pieceOf; rw [h0]; rfl
  have p1 : (pieceOf false twoL (touched [⟨64, 1⟩] twoL.length) 1).hid = true := by unfold pieceOf; rw [h1]; rfl
  rw [hP, hb] at cm
  clear hP h0 h1
  rw [hl] at cm p0 p1
  generalize pieceOf false twoL (touched [⟨64, 1⟩] 128) 0 = q0 at *
  generalize pieceOf false twoL (touched [⟨64, 1⟩] 128) 1 = q1 at *
  clear hl hb
  generalize twoL = B at *
  rw [b11 (fun _ _ => rfl) _ _ (by simp)]
  simp [pieceE_f, p0, p1, spanE_f] at cm
  simp -implicitDefEqProofs [c2, cm]
end Go.Ev.Try

/-
  THE REDACT SEAT: redact.Check, redact.Root (own work).
-/
import Derived.Test.YtnalmdnfoicokaaRdJ
import Derived.Test.YtnalmdnfoicokaaRdK
set_option linter.unusedSimpArgs false
set_option linter.unusedVariables false
set_option maxRecDepth 100000
set_option maxHeartbeats 4000000
namespace Go.Ev.Try
open Go Go.Ev Go.Proofs

/-! ### Check -/
def pieceOk (n i : Nat) (p : Piece) : Bool := if p.hid then p.bs.isEmpty else decide (p.hash = 0) && decide ((p.bs.length : Int) = placeL n i)
def allOk (n : Nat) (ps : List Piece) : Bool := (List.range ps.length).all fun i => pieceOk n i (ps.getD i default)
def checkR (size : Int) (ps : List Piece) : Int := if size < 0 ∨ 65536 < size then 2 else if ps.length = blocksN size.toNat ∧ allOk size.toNat ps = true then 0 else 3
theorem at_pieces (L : List Piece) (j : Nat) (h : j < L.length) : List.take 3 (List.drop (j * 3) (flatE pieceE L)) = [.bool L[j].hid, roV L[j].z L[j].bs.length (flatE (intE .u8) L[j].bs), .int .u64 L[j].hash] := by
  rw [at_flatE (n := 3) pieceE rfl L j h, pieceE_f]
theorem allOk_iff (n : Nat) (ps : List Piece) : allOk n ps = true ↔ ∀ (i : Nat) (h : i < ps.length), pieceOk n i ps[i] = true := by
  unfold allOk
  rw [List.all_eq_true]
  constructor
  · intro h i hi
    have := h i (List.mem_range.2 hi)
    rwa [List.getD_eq_getElem?_getD, List.getElem?_eq_getElem hi] at this
  · intro h i hi
    have hi := List.mem_range.1 hi
    rw [List.getD_eq_getElem?_getD, List.getElem?_eq_getElem hi]
    exact h i hi

theorem exCheck_ok (size : Int) (ps : List Piece) (zp : Bool) (hlb : ∀ p ∈ ps, p.bs.length ≤ 9223372036854775807) (hl : ps.length ≤ 9223372036854775807) {k : Nat} (hk : 2000 < k) :
    evF Try.prog Γ (k + 1) 22 [.agg [.int .i64 size, roV zp ps.length (flatE pieceE ps)]] [] = some (.int .i64 (checkR size ps), []) := by
  obtain ⟨k, rfl⟩ : ∃ j, k = j + 1 := ⟨k - 1, by omega⟩
  rw [b22 (fun _ _ => rfl) _ _ (by simp)]
  unfold checkR
  by_cases h1 : size < 0
  · simp -implicitDefEqProofs [h1]
  · by_cases h2 : 65536 < size
    · simp -implicitDefEqProofs [h1, h2]
    · obtain ⟨n, rfl⟩ := Int.eq_ofNat_of_zero_le (by omega : 0 ≤ size)
      have cb := blocks_ok n (by omega) (k := k)
      have h2' : ¬ 65536 < n := by omega
      have hB : blocksN n ≤ 1024 := by unfold blocksN; omega
      simp only [Int.toNat_natCast]
      by_cases h3 : ps.length = blocksN n
      · have h3' : (ps.length : Int) = blocksN n := by omega
        simp -implicitDefEqProofs [h1, h2, h2', cb, h3, h3']
        generalize hx : evLoopC _ _ _ _ _ _ _ _ _ _ = R
        apply loop_gen hx (fun i : Nat => (mkL 58 .junk [(1, .ptr 0 0), (21, roV zp (blocksN n) (flatE pieceE ps)), (22, .int .i64 (blocksN n)), (23, .int .i64 i)], [some (.cells [.int .i64 n, roV zp (blocksN n) (flatE pieceE ps)] true), none, none]))
          (fun i => i ≤ blocksN n ∧ ∀ (j : Nat) (h : j < ps.length), j < i → pieceOk n j ps[j] = true) (fun i => blocksN n - i) 0
        case hI => simp
        case hq => omega
        case ht => simp -implicitDefEqProofs [liveOf, coldOf]
        case round =>
          rintro i ⟨hi, hI⟩ _
          clear hx
          by_cases hlt : i < blocksN n
          · have hlt2 : (i : Int) < (blocksN n : Int) := by omega
            have hltL : i < ps.length := by omega
            have e2 : addI .i64 (i : Int) 1 = (i : Int) + 1 := addI_i64 (by omega) (by omega)
            have ms := at_pieces ps i hltL
            have h5 : 3 ≤ ps.length * 3 - i * 3 := by omega
            have h6 : 3 ≤ blocksN n * 3 - i * 3 := by omega
            have cp := place_ok n i (by omega) (by omega) (k := k)
            have hall := allOk_iff n ps
            have hnext : pieceOk n i ps[i] = true → ∀ (j : Nat) (h : j < ps.length), j < i + 1 → pieceOk n j ps[j] = true := fun hp j hj hji => by
              rcases Nat.lt_or_ge j i with h | h
              · exact hI j hj h
              · obtain rfl : j = i := by omega
                exact hp
            have hbad : pieceOk n i ps[i] = false → allOk n ps = false := fun hp => by
              rw [← Bool.not_eq_true, hall]
              intro h
              rw [h i hltL] at hp; cases hp
            generalize ps[i] = p at *
            obtain ⟨hid, z, bs, h⟩ := p
            simp only [pieceOk] at ms hnext hbad
            cases hid with
            | true =>
              cases bs with
              | nil =>
                simp -implicitDefEqProofs [hlt, hlt2, e2, ms, h5, h6, cp]
                exact rnd_next (i + 1) ⟨hlt, hnext rfl⟩ (by omega) (by simp -implicitDefEqProofs [liveOf, coldOf])
              | cons b bs =>
                have hb := hbad rfl
                have hp : (0 : Int) < (bs.length : Int) + 1 := by omega
                simp -implicitDefEqProofs [hlt, hlt2, e2, ms, h5, h6, cp, hp, hb]
            | false =>
              by_cases hz : h = 0
              · subst hz
                by_cases hpl : (bs.length : Int) = placeL n i
                · simp -implicitDefEqProofs [hlt, hlt2, e2, ms, h5, h6, cp, hpl, partV]
                  exact rnd_next (i + 1) ⟨hlt, hnext (by simp [hpl])⟩ (by omega) (by simp -implicitDefEqProofs [liveOf, coldOf])
                · have hb := hbad (by simp [hpl])
                  simp -implicitDefEqProofs [hlt, hlt2, e2, ms, h5, h6, cp, hpl, hb, partV]
              · have hb := hbad (by simp [hz])
                simp -implicitDefEqProofs [hlt, hlt2, e2, ms, h5, h6, cp, hz, hb]
          · have hlt2 : ¬ (i : Int) < (blocksN n : Int) := by omega
            have : allOk n ps = true := (allOk_iff n ps).2 fun j hj => hI j hj (by omega)
            simp -implicitDefEqProofs [hlt, hlt2, this]
      · have h3' : ¬ (ps.length : Int) = blocksN n := by omega
        simp -implicitDefEqProofs [h1, h2, h2', cb, h3, h3']
end Go.Ev.Try

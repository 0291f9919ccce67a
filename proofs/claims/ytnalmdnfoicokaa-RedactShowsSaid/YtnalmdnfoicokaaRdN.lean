/-
  THE REDACT SEAT: redact.Same (own work).
-/
import Derived.Test.YtnalmdnfoicokaaRdM
set_option linter.unusedSimpArgs false
set_option linter.unusedVariables false
set_option maxRecDepth 100000
set_option maxHeartbeats 4000000
namespace Go.Ev.Try
open Go Go.Ev Go.Proofs

theorem nums_flat (l : List Int) : numsOfCells (flatE (intE .u8) l) = some l := by
  induction l with
  | nil => rfl
  | cons x l ih => simp [numsOfCells, ih]
theorem conv_ro (H : Heap) (z : Bool) (l : List Int) : convertV Try.prog H 23 9 (roV z l.length (flatE (intE .u8) l)) = some (.str (strOfNums l), H) := by
  unfold roV
  split
  · rename_i h
    simp only [Bool.and_eq_true, beq_iff_eq] at h
    rw [List.length_eq_zero_iff.1 h.2]
    simp [convertV, sliceAtV, numsOfCells]
  · have t : List.take l.length (flatE (intE .u8) l) = flatE (intE .u8) l := by rw [List.take_of_length_le]; simp
    simp [convertV, sliceAtV, nums_flat, t]
def eqBytes (a b : List Int) : Bool := decide (strOfNums a = strOfNums b)
theorem eqBytes_refl (a : List Int) : eqBytes a a = true := by simp [eqBytes]
theorem bytesEqual_ok (a b : List Int) (za zb : Bool) {k : Nat} : evF Try.prog Γ (k + 1) 35 [roV za a.length (flatE (intE .u8) a), roV zb b.length (flatE (intE .u8) b)] [] = some (.bool (eqBytes a b), []) := by
  rw [b35 (fun _ _ => rfl) _ _ (by simp)]
  have h : ((strOfNums a).toList == (strOfNums b).toList) = decide (strOfNums a = strOfNums b) := by rw [Bool.eq_iff_iff]; simp
  simp -implicitDefEqProofs [conv_ro, binStr, eqBytes, h]
def sameP (p q : Piece) : Bool := (p.hid == q.hid) && (decide (p.hash = q.hash) && eqBytes p.bs q.bs)
theorem same44 (p q : Piece) {k : Nat} : evF Try.prog Γ (k + 2) 44 [.agg [.bool p.hid, roV p.z p.bs.length (flatE (intE .u8) p.bs), .int .u64 p.hash], .agg [.bool q.hid, roV q.z q.bs.length (flatE (intE .u8) q.bs), .int .u64 q.hash]] [] = some (.bool (sameP p q), []) := by
  have c := bytesEqual_ok p.bs q.bs p.z q.z (k := k)
  rw [b44 (fun _ _ => rfl) _ _ (by simp)]
  unfold sameP
  cases h1 : (p.hid == q.hid) with
  | false => simp -implicitDefEqProofs [h1]
  | true =>
    by_cases h2 : p.hash = q.hash
    · simp -implicitDefEqProofs [h1, h2, c]
    · simp -implicitDefEqProofs [h1, h2]
def sameAll (ps qs : List Piece) : Bool := decide (ps.length = qs.length) && (List.range ps.length).all fun i => sameP (ps.getD i default) (qs.getD i default)
theorem sameAll_iff (ps qs : List Piece) : sameAll ps qs = true ↔ ps.length = qs.length ∧ ∀ (i : Nat) (h : i < ps.length) (h' : i < qs.length), sameP ps[i] qs[i] = true := by
  unfold sameAll
  rw [Bool.and_eq_true, decide_eq_true_eq, List.all_eq_true]
  refine and_congr_right fun hl => ⟨fun h i hi hi' => ?_, fun h i hi => ?_⟩
  · have := h i (List.mem_range.2 hi)
    rwa [List.getD_eq_getElem?_getD, List.getElem?_eq_getElem hi, List.getD_eq_getElem?_getD, List.getElem?_eq_getElem hi'] at this
  · have hi := List.mem_range.1 hi
    rw [List.getD_eq_getElem?_getD, List.getElem?_eq_getElem hi, List.getD_eq_getElem?_getD, List.getElem?_eq_getElem (by omega)]
    exact h i hi (by omega)
/-- EqualFunc by a closure that compares pieces. -/
theorem eqFunc_ok (g : Nat) (hg : Γ.plain g = true) (ps qs : List Piece) (zp zq : Bool) (hl : ps.length ≤ 1000000) {k : Nat} (hk : ps.length < k)
    (cg : ∀ p q : Piece, evF Try.prog Γ k g [.agg [.bool p.hid, roV p.z p.bs.length (flatE (intE .u8) p.bs), .int .u64 p.hash], .agg [.bool q.hid, roV q.z q.bs.length (flatE (intE .u8) q.bs), .int .u64 q.hash]] [] = some (.bool (sameP p q), [])) :
    evF Try.prog Γ (k + 1) 43 [roV zp ps.length (flatE pieceE ps), roV zq qs.length (flatE pieceE qs), .fn (.func g) [] []] [] = some (.bool (sameAll ps qs), []) := by
  have hgp : (8 = g ∨ 10 = g ∨ 15 = g ∨ 24 = g ∨ 31 = g ∨ 36 = g ∨ 41 = g ∨ 45 = g ∨ 54 = g ∨ 57 = g ∨ 60 = g ∨ 65 = g) = False := by
    rw [eq_iff_iff, iff_false]
    intro h
    rcases h with rfl | rfl | rfl | rfl | rfl | rfl | rfl | rfl | rfl | rfl | rfl | rfl <;> cases hg
  rw [b43 (fun _ _ => rfl) _ _ (by simp)]
  by_cases hne : ps.length = qs.length
  · have hne' : (ps.length : Int) = qs.length := by omega
    simp -implicitDefEqProofs [hne, hne']
    generalize hx : evLoopC _ _ _ _ _ _ _ _ _ _ = R
    apply loop_gen hx (fun i : Nat => (mkL 32 .junk [(1, roV zq qs.length (flatE pieceE qs)), (2, .fn (.func g) [] []), (15, roV zp qs.length (flatE pieceE ps)), (16, .int .i64 qs.length), (17, .int .i64 i)], [none, none]))
      (fun i => i ≤ qs.length ∧ ∀ (j : Nat) (h : j < ps.length) (h' : j < qs.length), j < i → sameP ps[j] qs[j] = true) (fun i => qs.length - i) 0
    case hI => simp
    case hq => omega
    case ht => simp -implicitDefEqProofs [liveOf, coldOf]
    case round =>
      rintro i ⟨hi, hI⟩ _
      clear hx
      by_cases hlt : i < qs.length
      · have hltp : i < ps.length := by omega
        have hlt2 : (i : Int) < (qs.length : Int) := by omega
        have e2 : addI .i64 (i : Int) 1 = (i : Int) + 1 := addI_i64 (by omega) (by omega)
        have mp := at_pieces ps i hltp
        have mq := at_pieces qs i hlt
        have h5 : 3 ≤ ps.length * 3 - i * 3 := by omega
        have h6 : 3 ≤ qs.length * 3 - i * 3 := by omega
        have c := cg ps[i] qs[i]
        have hnext : sameP ps[i] qs[i] = true → ∀ (j : Nat) (h : j < ps.length) (h' : j < qs.length), j < i + 1 → sameP ps[j] qs[j] = true := fun hp j hj hj' hji => by
          rcases Nat.lt_or_ge j i with h | h
          · exact hI j hj hj' h
          · obtain rfl : j = i := by omega
            exact hp
        have hbad : sameP ps[i] qs[i] = false → sameAll ps qs = false := fun hp => by
          rw [← Bool.not_eq_true, sameAll_iff]
          intro h
          rw [h.2 i hltp hlt] at hp; cases hp
        generalize ps[i] = p at *
        generalize qs[i] = q at *
        cases hs : sameP p q with
        | true =>
          rw [hs] at c
          simp -implicitDefEqProofs [hlt, hlt2, e2, mp, mq, h5, h6, c, hgp]
          exact rnd_next (i + 1) ⟨hlt, hnext hs⟩ (by omega) (by simp -implicitDefEqProofs [liveOf, coldOf])
        | false =>
          rw [hs] at c
          have hb := hbad hs
          simp -implicitDefEqProofs [hlt, hlt2, e2, mp, mq, h5, h6, c, hgp, hb]
      · have hlt2 : ¬ (i : Int) < (qs.length : Int) := by omega
        have : sameAll ps qs = true := (sameAll_iff ps qs).2 ⟨hne, fun j h h' => hI j h h' (by omega)⟩
        simp -implicitDefEqProofs [hlt, hlt2, this]
  · have hne' : ¬ (ps.length : Int) = qs.length := by omega
    have : sameAll ps qs = false := by unfold sameAll; simp [hne]
    simp -implicitDefEqProofs [hne, hne', this]

theorem same_ok (a b : Int) (ps qs : List Piece) (zp zq : Bool) (hl : ps.length ≤ 1000000) {k : Nat} (hk : ps.length + 10 < k) :
    evF Try.prog Γ (k + 1) 12 [.agg [.int .i64 a, roV zp ps.length (flatE pieceE ps)], .agg [.int .i64 b, roV zq qs.length (flatE pieceE qs)]] [] = some (.bool (decide (a = b) && sameAll ps qs), []) := by
  obtain ⟨k, rfl⟩ : ∃ j, k = j + 3 := ⟨k - 3, by omega⟩
  have c := eqFunc_ok 44 rfl ps qs zp zq hl (k := k + 2) (by omega) (fun p q => same44 p q (k := k))
  rw [b12 (fun _ _ => rfl) _ _ (by simp)]
  by_cases h : a = b
  · simp -implicitDefEqProofs [h, c]
  · simp -implicitDefEqProofs [h]
end Go.Ev.Try

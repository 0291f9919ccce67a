/-
  THE CLOCK DOOR SEAT: slices.Clone of ties, the closure of ClockTight (own work).
-/
import Derived.Test.YtflmadkbppnmcaaDoorDkOr
import Derived.Test.YtflmadkbppnmcaaDoorDkC6
import Derived.Test.YtflmadkbppnmcaaDoorDkC7
set_option linter.unusedSimpArgs false
set_option linter.unusedVariables false
set_option maxRecDepth 100000
set_option maxHeartbeats 4000000
namespace Go.Ev.Tryd
open Go Go.Ev Go.Proofs

theorem clone_ok (l : List Tie) (hl : l.length ≤ 1000) {k : Nat} :
    evF Tryd.prog Γ (k + 1) 12 [roV true l.length (flatE tieE l)] [] = some (ownV true 0 0 l.length 4, [ownB true l.length (flatE tieE l)]) := by
  rw [b12 (fun _ _ => rfl) _ _ (by simp)]
  cases hn : l.length with
  | zero =>
    obtain rfl : l = [] := List.eq_nil_of_length_eq_zero hn
    simp -implicitDefEqProofs
  | succ n =>
    have tk : List.take ((n + 1) * 4) (flatE tieE l) = flatE tieE l := by rw [← hn]; exact take_all_flatE tieE rfl l
    have hb : (n + 1) * 32 ≤ 140737488355328 := by omega
    simp -implicitDefEqProofs [roV_pos, tk, hb, hn]
def canB (es : List Event) (ts : List Tie) (k at_ : Int) : Bool := decide (-4294967295 ≤ at_) && decide (at_ ≤ 4294967295) && feas es (ts ++ [fixT k at_])
theorem can_ok {es : List Event} {ts : List Tie} {K : Int} (hr : Right es ts) (hf : ∀ a, -4294967295 ≤ a → a ≤ 4294967295 → faultC es (ts ++ [fixT K a]) = 0) (hn : es.length ≤ 8) (hm : ts.length ≤ 9) (hne : es ≠ []) (at_ : Int) {k : Nat} (hk : 900 < k) :
    evF Tryd.prog Γ (k + 1) 11 [.int .i64 at_, .ro [roV true es.length (flatE eventE es)], .ro [roV true ts.length (flatE tieE ts)], .ro [.int .i64 K]] [] = some (.bool (canB es ts K at_), []) := by
  obtain ⟨k, rfl⟩ : ∃ j, k = j + 1 := ⟨k - 1, by omega⟩
  obtain ⟨n, hn1⟩ : ∃ n, es.length = n + 1 := ⟨es.length - 1, by have := List.length_pos_iff.2 hne; omega⟩
  have cl := clone_ok ts (by omega) (k := k)
  rw [b11 (fun _ _ => rfl) _ _ (by simp)]
  unfold canB
  by_cases h1 : at_ < -4294967295
  · have h1' : ¬ -4294967295 ≤ at_ := by omega
    simp -implicitDefEqProofs [h1, h1']
  · by_cases h2 : 4294967295 < at_
    · have h1' : -4294967295 ≤ at_ := by omega
      have h2' : ¬ at_ ≤ 4294967295 := by omega
      simp -implicitDefEqProofs [h1, h2, h1', h2']
    · have h1' : -4294967295 ≤ at_ := by omega
      have h2' : at_ ≤ 4294967295 := by omega
      have x8 := solve_ok es (ts ++ [fixT K at_]) true true (by omega) (by simp; omega) (k := k) (by omega)
      have hA : (answer es (ts ++ [fixT K at_]) fun d => ivs d (1 + nC es) es.length).1.length = (if feas es (ts ++ [fixT K at_]) then n + 1 else 0) ∧ (answer es (ts ++ [fixT K at_]) fun d => ivs d (1 + nC es) es.length).2 = (if feas es (ts ++ [fixT K at_]) then 0 else 17) := by
        rw [answer_made (hf at_ h1' h2')]
        unfold feas
        cases closed (nV es) (bds es (ts ++ [fixT K at_])) <;> simp [hn1]
      generalize (answer es (ts ++ [fixT K at_]) fun d => ivs d (1 + nC es) es.length) = A at *
      generalize feas es (ts ++ [fixT K at_]) = fe at *
      obtain ⟨A, e⟩ := A
      simp only at hA
      obtain ⟨hA1, rfl⟩ := hA
      have hfx : flatE tieE [fixT K at_] = [.int .i64 (-1), .int .i64 K, .int .i64 at_, .int .i64 at_] := rfl
      have tkE : List.take ((n + 1) * 3) (flatE eventE es) = flatE eventE es := by rw [← hn1]; exact take_all_flatE eventE rfl es
      cases hm1 : ts.length with
      | zero =>
        obtain rfl : ts = [] := List.eq_nil_of_length_eq_zero hm1
        simp at cl
        cases fe
        · have hA1 : A.length = 0 := by simpa using hA1
          obtain rfl : A = [] := List.eq_nil_of_length_eq_zero hA1
          simp [ansV, hn1, tieE_f, fixT] at x8
          simp -implicitDefEqProofs [h1, h2, h1', h2', cl, roV_pos, hn1, tkE, x8]
          refine ⟨?_, ?_, ?_⟩ <;> (refine bounded1 ?_ rfl; simp [bndA, bndR, V.refs])
        · have hA1 : A.length = n + 1 := by simpa using hA1
          simp [ansV, hn1, tieE_f, fixT, hA1] at x8
          simp -implicitDefEqProofs [h1, h2, h1', h2', cl, roV_pos, hn1, tkE, x8]
          refine ⟨?_, ?_, ?_⟩ <;> (refine bounded1 ?_ rfl; simp [bndA, bndR, V.refs])
      | succ m =>
        have tkT : List.take ((m + 1) * 4) (flatE tieE ts) = flatE tieE ts := by rw [← hm1]; exact take_all_flatE tieE rfl ts
        have hb : (m + 1 + 1) * 32 ≤ 140737488355328 := by omega
        have tkT2 : List.take ((m + 1 + 1) * 4) (flatE tieE ts ++ [.int .i64 (-1), .int .i64 K, .int .i64 at_, .int .i64 at_]) = flatE tieE ts ++ [.int .i64 (-1), .int .i64 K, .int .i64 at_, .int .i64 at_] := List.take_of_length_le (by simp [hm1]; omega)
        simp [hm1] at cl
        cases fe
        · have hA1 : A.length = 0 := by simpa using hA1
          obtain rfl : A = [] := List.eq_nil_of_length_eq_zero hA1
          simp [ansV, hn1, tieE_f, fixT, hm1] at x8
          simp -implicitDefEqProofs [h1, h2, h1', h2', cl, roV_pos, hn1, tkE, tkT, tkT2, hb, hm1, x8]
          refine ⟨?_, ?_, ?_⟩ <;> (refine bounded1 ?_ rfl; simp [bndA, bndR, V.refs])
        · have hA1 : A.length = n + 1 := by simpa using hA1
          simp [ansV, hn1, tieE_f, fixT, hA1, hm1] at x8
          simp -implicitDefEqProofs [h1, h2, h1', h2', cl, roV_pos, hn1, tkE, tkT, tkT2, hb, hm1, x8]
          refine ⟨?_, ?_, ?_⟩ <;> (refine bounded1 ?_ rfl; simp [bndA, bndR, V.refs])
end Go.Ev.Tryd

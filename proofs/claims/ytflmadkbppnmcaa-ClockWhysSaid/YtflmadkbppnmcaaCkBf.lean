/-
  THE CLOCK SEAT: Equal and Concat of numbers, Equal of pairs (own work).
-/
import Derived.Test.YtflmadkbppnmcaaCkZ
import Derived.Test.YtflmadkbppnmcaaCkC4
import Derived.Test.YtflmadkbppnmcaaCkK2
set_option linter.unusedSimpArgs false
set_option linter.unusedVariables false
set_option maxRecDepth 100000
set_option maxHeartbeats 4000000
namespace Go.Ev.Try
open Go Go.Ev Go.Proofs

theorem equal_ints (a b : List Int) (za zb : Bool) (ha : a.length ≤ 8796093022208) {k : Nat} (hk : a.length < k) :
    evF Try.prog Γ (k + 1) 16 [roV za a.length (flatE (intE .i64) a), roV zb b.length (flatE (intE .i64) b)] [] = some (.bool (decide (a = b)), []) := by
  rw [b16 (fun _ _ => rfl) _ _ (by simp)]
  by_cases hl : a.length = b.length
  · have hl2 : (a.length : Int) = b.length := by omega
    simp -implicitDefEqProofs [hl2, hl]
    generalize hx : evLoopC _ _ _ _ _ _ _ _ _ _ = R
    apply loop_gen hx (fun i : Nat => (mkL 26 .junk [(0, roV za b.length (flatE (intE .i64) a)), (1, roV zb b.length (flatE (intE .i64) b)), (12, .int .i64 b.length), (13, .int .i64 i)], [none, none]))
      (fun i => i ≤ a.length ∧ a.take i = b.take i) (fun i => a.length - i) 0
    case hI => simp
    case hq => omega
    case ht => simp -implicitDefEqProofs [liveOf]
    case round =>
      rintro i ⟨hi, hI⟩ _
      clear hx
      by_cases hlt : i < a.length
      · have hb : i < b.length := by omega
        have hlt2 : (i : Int) < (b.length : Int) := by omega
        have e2 : addI .i64 (i : Int) 1 = (i : Int) + 1 := addI_i64 (by omega) (by omega)
        have ma := at_flatE1 (intE .i64) rfl a i hlt
        have mb := at_flatE1 (intE .i64) rfl b i hb
        have b1 : 1 ≤ a.length - i := by omega
        have b2 : 1 ≤ b.length - i := by omega
        by_cases he : a[i] = b[i]
        · have hnext : a.take (i + 1) = b.take (i + 1) := by
            rw [List.take_succ_eq_append_getElem hlt, List.take_succ_eq_append_getElem hb, hI, he]
          generalize a[i] = x at *
          generalize b[i] = y at *
          simp -implicitDefEqProofs [hlt2, hb, e2, ma, mb, he, hlt]
          exact rnd_next (i + 1) ⟨hlt, hnext⟩ (by omega) (by simp -implicitDefEqProofs [liveOf])
        · have hne : ¬ a = b := fun h => he (by subst h; rfl)
          generalize a[i] = x at *
          generalize b[i] = y at *
          simp -implicitDefEqProofs [hlt2, hb, e2, ma, mb, he, hlt, hne]
      · have hi' : i = a.length := by omega
        subst hi'
        have hlt2 : ¬ (a.length : Int) < (b.length : Int) := by omega
        have heq : a = b := by rw [List.take_length, hl, List.take_length] at hI; exact hI
        simp -implicitDefEqProofs [hlt2, hl2, heq]
  · have hl2 : ¬ (a.length : Int) = b.length := by omega
    have hne : ¬ a = b := fun h => hl (by rw [h])
    simp -implicitDefEqProofs [hl2, hl, hne]

/-! ### slices.Concat -/
end Go.Ev.Try

/-
  THE REDACT SEAT: sum.Number, slices.Concat of two numbers' bytes (own work).
-/
import Derived.Test.YtnalmdnfoicokaaRdH
import Derived.Test.YtnalmdnfoicokaaRdC1
set_option linter.unusedSimpArgs false
set_option linter.unusedVariables false
set_option maxRecDepth 100000
set_option maxHeartbeats 4000000
namespace Go.Ev.Try
open Go Go.Ev Go.Proofs

noncomputable def numB (h : Int) (i : Nat) : Int := IntKind.u8.wrap (shrI .u64 h (8 * (i : Int)))
noncomputable def numAt (h : Int) (i : Nat) : List Int := (List.range i).map (numB h) ++ zeros (8 - i)
noncomputable def numL (h : Int) : List Int := (List.range 8).map (numB h)
theorem numL_length (h : Int) : (numL h).length = 8 := by simp [numL]
theorem numAt_length (h : Int) (i : Nat) (hi : i ≤ 8) : (numAt h i).length = 8 := by simp [numAt]; omega
theorem numAt_set (h : Int) (i : Nat) (hi : i < 8) : (numAt h i).set i (numB h i) = numAt h (i + 1) := by
  unfold numAt
  rw [List.set_append_right _ _ (by simp)]
  obtain ⟨d, hd⟩ : ∃ d, 8 - i = d + 1 := ⟨7 - i, by omega⟩
  have hd2 : 8 - (i + 1) = d := by omega
  rw [hd, hd2, List.range_succ]
  simp [zeros, List.replicate_succ]
theorem number_ok (h : Int) {k : Nat} (hk : 20 < k) : evF Try.prog Γ (k + 1) 49 [.int .u64 h] [] = some (.sl 0 0 8 1, [some (.cells (flatE (intE .u8) (numL h)) true)]) := by
  rw [b49 (fun _ _ => rfl) _ _ (by simp)]
  simp -implicitDefEqProofs
  generalize hx : evLoopC _ _ _ _ _ _ _ _ _ _ = R
  apply loop_gen hx (fun i : Nat => (mkL 21 .junk [(0, .int .u64 h), (3, .sl 0 0 8 1), (7, .int .i64 8), (8, .int .i64 i)], [some (.cells (flatE (intE .u8) (numAt h i)) true)])) (fun i => i ≤ 8) (fun i => 8 - i) 0
  case hI => simp
  case hq => omega
  case ht => simp -implicitDefEqProofs [liveOf, coldOf, numAt, zeros, List.replicate]
  case round =>
    rintro i hi _
    clear hx
    have hl := numAt_length h i hi
    by_cases hlt : i < 8
    · have hlt2 : (i : Int) < 8 := by omega
      have e2 : addI .i64 (i : Int) 1 = (i : Int) + 1 := addI_i64 (by omega) (by omega)
      have e3 : mulI .i64 8 (i : Int) = 8 * (i : Int) := mulI_i64 (by omega) (by omega)
      have e4 : ¬ (8 * (i : Int) < 0) := by omega
      have hs := numAt_set h i hlt
      have hset := set_ints (k := .u8) (l := numAt h i) (b := numB h i) (by omega : i < (numAt h i).length)
      rw [hs] at hset
      have h7 : i ≤ 7 := by omega
      have hi1 : i + 1 ≤ (numAt h i).length := by omega
      unfold numB at hset
      simp -implicitDefEqProofs [hlt, hlt2, e2, e3, e4, convertV, hset, hl, h7]
      exact rnd_next (i + 1) hlt (by omega) (by simp -implicitDefEqProofs [liveOf, coldOf])
    · have hi' : i = 8 := by omega
      subst hi'
      have : numAt h 8 = numL h := by simp [numAt, numL, zeros]
      rw [this]
      simp -implicitDefEqProofs

theorem grow16 {k : Nat} : evF Try.prog Γ (k + 1) 58 [.nils, .int .i64 16] [] = some (.sl 0 0 0 1, [some (.cells (flatE (intE .u8) (zeros 16)) false)]) := by
  have e1 : subI .i64 0 0 = 0 := subI_i64 (by omega) (by omega)
  have e2 : subI .i64 16 0 = 16 := subI_i64 (by omega) (by omega)
  have hz : flatE (intE .u8) (zeros 16) = [.int .u8 0, .int .u8 0, .int .u8 0, .int .u8 0, .int .u8 0, .int .u8 0, .int .u8 0, .int .u8 0, .int .u8 0, .int .u8 0, .int .u8 0, .int .u8 0, .int .u8 0, .int .u8 0, .int .u8 0, .int .u8 0] := rfl
  rw [b58 (fun _ _ => rfl) _ _ (by simp), hz]
  simp -implicitDefEqProofs [e1, e2]

def catAt (A B : List Int) : Nat → List Int
  | 0 => zeros 16
  | 1 => A ++ zeros 8
  | _ => A ++ B
theorem concat_ok (A B : List Int) (hA : A.length = 8) (hB : B.length = 8) {k : Nat} (hk : 20 < k) :
    evF Try.prog Γ (k + 1) 48 [.ros 2 [.ros 8 (flatE (intE .u8) A), .ros 8 (flatE (intE .u8) B)]] [] = some (.sl 0 0 16 1, [some (.cells (flatE (intE .u8) (A ++ B)) false)]) := by
  obtain ⟨k, rfl⟩ : ∃ j, k = j + 1 := ⟨k - 1, by omega⟩
  have cg := grow16 (k := k)
  rw [b48 (fun _ _ => rfl) _ _ (by simp)]
  simp -implicitDefEqProofs
  generalize hx : evLoopC _ _ _ _ _ _ _ _ _ _ = R
  apply loop_gen hx (fun i : Nat => (mkL 36 .junk [(0, .ros 2 [.ros 8 (flatE (intE .u8) A), .ros 8 (flatE (intE .u8) B)]), (3, .int .i64 (8 * (i : Int))), (9, .ros 2 [.ros 8 (flatE (intE .u8) A), .ros 8 (flatE (intE .u8) B)]), (10, .int .i64 2), (11, .int .i64 i)], [none, none])) (fun i => i ≤ 2) (fun i => 2 - i) 0
  case hI => simp
  case hq => omega
  case ht => simp -implicitDefEqProofs [liveOf, coldOf]
  case round =>
    rintro i hi _
    clear hx
    rcases (by omega : i = 0 ∨ i = 1 ∨ i = 2) with rfl | rfl | rfl
    · have e1 : addI .i64 0 8 = 8 := addI_i64 (by omega) (by omega)
      have e2 : addI .i64 0 1 = 1 := addI_i64 (by omega) (by omega)
      simp -implicitDefEqProofs [e1, e2]
      exact rnd_next 1 (by omega) (by omega) (by simp -implicitDefEqProofs [liveOf, coldOf])
    · have e1 : addI .i64 8 8 = 16 := addI_i64 (by omega) (by omega)
      have e2 : addI .i64 1 1 = 2 := addI_i64 (by omega) (by omega)
      simp -implicitDefEqProofs [e1, e2]
      exact rnd_next 2 (by omega) (by omega) (by simp -implicitDefEqProofs [liveOf, coldOf])
    · simp -implicitDefEqProofs [cg]
      generalize hx : evLoopC _ _ _ _ _ _ _ _ _ _ = R
      apply loop_gen hx (fun i : Nat => (mkL 36 .junk [(6, .sl 0 0 (8 * i) 1), (25, .ros 2 [.ros 8 (flatE (intE .u8) A), .ros 8 (flatE (intE .u8) B)]), (26, .int .i64 2), (27, .int .i64 i)], [some (.cells (flatE (intE .u8) (catAt A B i)) false), none])) (fun i => i ≤ 2) (fun i => 2 - i) 0
      case hI => simp
      case hq => omega
      case ht => simp -implicitDefEqProofs [liveOf, coldOf, catAt]
      case round =>
        rintro i hi _
        clear hx
        have tA : List.take 8 (flatE (intE .u8) A) = flatE (intE .u8) A := by rw [List.take_of_length_le]; simp [hA]
        have tB : List.take 8 (flatE (intE .u8) B) = flatE (intE .u8) B := by rw [List.take_of_length_le]; simp [hB]
        rcases (by omega : i = 0 ∨ i = 1 ∨ i = 2) with rfl | rfl | rfl
        · have e2 : addI .i64 0 1 = 1 := addI_i64 (by omega) (by omega)
          have d1 : List.drop 8 (flatE (intE .u8) (zeros 16)) = flatE (intE .u8) (zeros 8) := rfl
          simp -implicitDefEqProofs [e2, catAt, tA, hA, appendS, writeCells, d1]
          exact rnd_next 1 (by omega) (by omega) (by simp -implicitDefEqProofs [liveOf, coldOf, catAt])
        · have e2 : addI .i64 1 1 = 2 := addI_i64 (by omega) (by omega)
          have d1 : List.take 8 (flatE (intE .u8) A ++ flatE (intE .u8) (zeros 8)) = flatE (intE .u8) A := by rw [List.take_append_of_le_length (by simp [hA]), List.take_of_length_le (by simp [hA])]
          have d2 : List.drop 16 (flatE (intE .u8) A ++ flatE (intE .u8) (zeros 8)) = [] := by rw [List.drop_of_length_le]; simp [hA]
          simp -implicitDefEqProofs [e2, catAt, tB, hA, hB, appendS, writeCells, d1, d2]
          exact rnd_next 2 (by omega) (by omega) (by simp -implicitDefEqProofs [liveOf, coldOf, catAt])
        · simp -implicitDefEqProofs [catAt]
end Go.Ev.Try

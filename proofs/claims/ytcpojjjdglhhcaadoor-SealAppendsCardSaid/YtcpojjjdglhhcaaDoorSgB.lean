/-
  THE SEAL SEAT: numbers as texts (own work).
-/
import Derived.Test.YtcpojjjdglhhcaaDoorSgA
import Derived.Test.YtcpojjjdglhhcaaDoorSgC1
set_option linter.unusedSimpArgs false
set_option linter.unusedVariables false
set_option maxRecDepth 100000
namespace Go.Ev.Tryd
open Go Go.Ev Go.Proofs

theorem pow2_16 : evF Tryd.prog Γ 5 49 [.int .i64 16] [] = some (.bool true, []) := by kernel_rfl
theorem tz_16 : evF Tryd.prog Γ 5 50 [.int .u64 16] [] = some (.int .i64 4, []) := by kernel_rfl

theorem and15 (u : Int) : 0 ≤ andI .u64 u 15 ∧ andI .u64 u 15 < 16 := by
  rw [andI_eq, IntKind.wrap_u64]
  have h : (BitVec.ofInt IntKind.u64.bits u &&& BitVec.ofInt IntKind.u64.bits 15).toNat ≤ 15 := by
    rw [BitVec.toNat_and]
    exact Nat.and_le_right
  omega
theorem shr4 {u : Int} (h : 0 ≤ u) : shrI .u64 u 4 = u / 16 := by
  rw [shrI_eq]
  show u.fdiv (2 ^ 4) = _
  rw [Int.fdiv_eq_ediv_of_nonneg _ (by decide)]
  rfl

@[simp] theorem numsOfCells_ints (l : List Int) : numsOfCells (flatE (intE .u8) l) = some l := by
  induction l with
  | nil => rfl
  | cons x l ih => simp [numsOfCells, ih]

theorem bits_ok (u : Int) (h0 : 0 ≤ u) (h1 : u < 18446744073709551616) {k : Nat} (hk : 70 < k) :
    ∃ s : ByteArray, s.size ≤ 65 ∧ evF Tryd.prog Γ (k + 1) 42 [.nils, .int .u64 u, .int .i64 16, .bool false, .bool false] [] = some (.tup [.nils, .str s], [none]) := by
  have c1 : evF Tryd.prog Γ k 49 [.int .i64 16] [] = some (.bool true, []) := evF_mono (by omega) _ _ _ _ pow2_16
  have c2 : evF Tryd.prog Γ k 50 [.int .u64 16] [] = some (.int .i64 4, []) := evF_mono (by omega) _ _ _ _ tz_16
  have w1 : IntKind.u64.wrap 16 = 16 := by rw [IntKind.wrap_u64]; rfl
  have w2 : IntKind.u64.wrap 4 = 4 := by rw [IntKind.wrap_u64]; rfl
  have w3 : subI .u64 16 1 = 15 := by rw [subI_eq, IntKind.wrap_u64]; rfl
  rw [b42 (fun _ _ => rfl) _ _ (by simp)]
  simp -implicitDefEqProofs [c1, c2, w1, w2, w3, convertV]
  generalize hx : evLoopC _ _ _ _ _ _ _ _ _ _ = R
  apply loop_gen hx (fun a : Int × Nat × List Int => (mkL 102 .junk [(1, .int .u64 a.1), (3, .bool false), (4, .bool false), (10, .nils), (12, .ptr 1 0), (13, .int .i64 a.2.1), (14, .int .u64 4), (15, .int .u64 16), (16, .int .u64 15)],
      [none, some (.cells (flatE (intE .u8) a.2.2) true)]))
    (fun a => 0 ≤ a.1 ∧ 49 ≤ a.2.1 ∧ a.2.1 ≤ 65 ∧ a.2.2.length = 65 ∧ a.1 < 16 ^ (a.2.1 - 48)) (fun a => a.2.1) (u, 65, zeroI 65)
  case hI => exact ⟨h0, by simp, by simp, by simp, by simp only; omega⟩
  case hq => simpa using by omega
  case ht => simp -implicitDefEqProofs [liveOf]
  case round =>
    rintro ⟨v, i, bs⟩ ⟨g0, g1, g2, g3, g4⟩ _
    simp only at g0 g1 g2 g3 g4
    clear hx
    obtain ⟨j, rfl⟩ : ∃ j, i = j + 1 := ⟨i - 1, by omega⟩
    have e1 : subI .i64 ((j : Int) + 1) 1 = (j : Int) := by rw [subI_i64 (by omega) (by omega)]; omega
    have e2 := and15 v
    have e3 : (andI .u64 v 15).toNat < 36 := by omega
    have e4 := shr4 (u := v) (by omega)
    have e5 : j + 1 ≤ 65 := by omega
    have e6 : (j : Int) < 65 := by omega
    have e7 : j < 65 := by omega
    by_cases hu : 16 ≤ v
    · simp -implicitDefEqProofs [hu, e1, e2.1, e3, e4, e5, e6, e7, g3]
      generalize byteAt _ _ = b
      refine rnd_next (v / 16, j, bs.set j b) ⟨by simp only; omega, ?_, by simp only; omega, by simpa using g3, ?_⟩ (by simp only; omega) ?_
      · simp only
        have : j ≠ 48 := fun h => by subst h; simp at g4; omega
        omega
      · simp only
        have h3 : j + 1 - 48 = (j - 48) + 1 := by
          have : j ≠ 47 := fun h => by omega
          omega
        rw [h3, Int.pow_succ] at g4
        omega
      · simp -implicitDefEqProofs [liveOf, g3, e7]
    · have e8 : v.toNat < 36 := by omega
      have e9 : j ≤ 65 := by omega
      simp -implicitDefEqProofs [hu, e1, e2.1, e3, e4, e5, e6, e7, e8, e9, g0, g3]
      generalize byteAt _ _ = b
      simp -implicitDefEqProofs [convertV, drop_flatE1 (intE .u8) rfl, take_flatE1 (intE .u8) rfl, g3, e9]
      rw [strOfNums_size]
      simp
      omega
end Go.Ev.Tryd

/-
  THE LINE SEAT: LineMakes, no marks in front, printed by wip/tools/gen_makes5.py (own work).
-/
import Derived.Test.YthmpoblblgohcaaLmG
set_option linter.unusedSimpArgs false
set_option linter.unusedVariables false
set_option maxRecDepth 100000
set_option maxHeartbeats 4000000
namespace Go.Ev.Try
open Go Go.Ev Go.Proofs

theorem makesA_true (l m : List Mark) (zl zm : Bool) (hl : l.length ≤ 5864062014805) (hm : m.length ≤ 5864062014805) (hl0 : l = []) (hz : zl = true) {k : Nat} (hk : l.length + m.length + 7000 < k) :
    evF Try.prog Γ (k + 1) 5 [roV zl l.length (flatE markE l), roV zm m.length (flatE markE m)] [] = some (.bool true, []) := by
  obtain ⟨k, rfl⟩ : ∃ j, k = j + 1 := ⟨k - 1, by omega⟩
  have c22 := lined22_ok (k := k) (by omega)
  have c23 := check_any l zl (k := k) (by omega)
  have c24 := fault_any l zl (k := k) (by omega)
  have c24m := fault_any m zm (k := k) (by omega)
  have ho := outcome l m zl zm (k := k) (by omega)
  have c17n := equal_ok [] [] true true (by decide) (k := k) (by simp only [List.length_nil]; omega)
  simp only [List.length_nil, flatE_nil, roV_nil, decide_true] at c17n
  unfold Outcome at ho
  simp only at ho
  subst hl0 hz
  rw [faultM_nil] at c23 c24
  have c8 := of_nil (k := k) (by omega)
  have c21 := lined0_ok [] true (by decide) (k := k) (by simp only [List.length_nil]; omega) 0 rfl
  have c17 := equal_ok [] [] true true (by decide) (k := k) (by simp only [List.length_nil]; omega)
  have hLn : lineM [] = [] := rfl
  rw [hLn] at c21
  simp only [faultM_nil] at ho
  simp only [roV_nil, roV_false, ownV_nil, ownB_nil, List.length_nil, flatE_nil, if_true, decide_true] at c8 c21 c17 c23 c24 ho
  rw [b5 (fun _ _ => rfl) _ _ (by simp)]
  generalize faultM m = FM at *
  rcases ho with ⟨hf, c16⟩ | ⟨hf, hg, c16⟩ | ⟨hf, hg, e, p, A, he, c16, c26, t1, c21t⟩ | ⟨hf, hg, c16, c26, c21t⟩ | ⟨hf, hg, p, t, A, T, Z, c16, c26, t1, t2, t3, c21t, c17t⟩
  · exact absurd trivial hf
  · simp -implicitDefEqProofs [c22, c23, c24, c24m, c8, c21, c17, c16, c17n, hg, List.length_nil]
  · simp -implicitDefEqProofs [c22, c23, c24, c24m, c8, c21, c17, c16, c17n, hg, he, c26, t1, c21t, c17n, List.length_nil]
  · simp -implicitDefEqProofs [c22, c23, c24, c24m, c8, c21, c17, c16, c17n, hg, c26, c21t, c17n, List.length_nil]
  · simp -implicitDefEqProofs [c22, c23, c24, c24m, c8, c21, c17, c16, c17n, hg, c26, t1, t2, t3, c21t, c17t, List.length_nil]
theorem makesA_false (l m : List Mark) (zl zm : Bool) (hl : l.length ≤ 5864062014805) (hm : m.length ≤ 5864062014805) (hl0 : l = []) (hz : zl = false) {k : Nat} (hk : l.length + m.length + 7000 < k) :
    evF Try.prog Γ (k + 1) 5 [roV zl l.length (flatE markE l), roV zm m.length (flatE markE m)] [] = some (.bool true, []) := by
  obtain ⟨k, rfl⟩ : ∃ j, k = j + 1 := ⟨k - 1, by omega⟩
  have c22 := lined22_ok (k := k) (by omega)
  have c23 := check_any l zl (k := k) (by omega)
  have c24 := fault_any l zl (k := k) (by omega)
  have c24m := fault_any m zm (k := k) (by omega)
  have ho := outcome l m zl zm (k := k) (by omega)
  have c17n := equal_ok [] [] true true (by decide) (k := k) (by simp only [List.length_nil]; omega)
  simp only [List.length_nil, flatE_nil, roV_nil, decide_true] at c17n
  unfold Outcome at ho
  simp only at ho
  subst hl0 hz
  rw [faultM_nil] at c23 c24
  have c8 := of_empty (k := k) (by omega)
  have c21 := lined0_ok [] false (by decide) (k := k) (by simp only [List.length_nil]; omega) 0 rfl
  have c17 := equal_ok [] [] false true (by decide) (k := k) (by simp only [List.length_nil]; omega)
  have hLn : lineM [] = [] := rfl
  rw [hLn] at c21
  simp only [faultM_nil] at ho
  simp only [roV_nil, roV_false, ownV_nil, ownB_nil, List.length_nil, flatE_nil, if_true, decide_true] at c8 c21 c17 c23 c24 ho
  rw [b5 (fun _ _ => rfl) _ _ (by simp)]
  generalize faultM m = FM at *
  rcases ho with ⟨hf, c16⟩ | ⟨hf, hg, c16⟩ | ⟨hf, hg, e, p, A, he, c16, c26, t1, c21t⟩ | ⟨hf, hg, c16, c26, c21t⟩ | ⟨hf, hg, p, t, A, T, Z, c16, c26, t1, t2, t3, c21t, c17t⟩
  · exact absurd trivial hf
  · simp -implicitDefEqProofs [c22, c23, c24, c24m, c8, c21, c17, c16, c17n, hg, List.length_nil]
  · simp -implicitDefEqProofs [c22, c23, c24, c24m, c8, c21, c17, c16, c17n, hg, he, c26, t1, c21t, c17n, List.length_nil]
  · simp -implicitDefEqProofs [c22, c23, c24, c24m, c8, c21, c17, c16, c17n, hg, c26, c21t, c17n, List.length_nil]
  · simp -implicitDefEqProofs [c22, c23, c24, c24m, c8, c21, c17, c16, c17n, hg, c26, t1, t2, t3, c21t, c17t, List.length_nil]
end Go.Ev.Try

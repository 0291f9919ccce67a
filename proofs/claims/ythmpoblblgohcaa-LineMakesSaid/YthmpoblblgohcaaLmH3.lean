/-
  THE LINE SEAT: LineMakes, some marks in front, printed by wip/tools/gen_makes5.py (own work).
-/
import Derived.Test.YthmpoblblgohcaaLmG
set_option linter.unusedSimpArgs false
set_option linter.unusedVariables false
set_option maxRecDepth 100000
set_option maxHeartbeats 4000000
namespace Go.Ev.Try
open Go Go.Ev Go.Proofs

theorem makesE_nil (l m : List Mark) (zl zm : Bool) (hl : l.length ≤ 5864062014805) (hm : m.length ≤ 5864062014805) (he : ¬ faultM (lineM l) = 0) (hne : l.length ≠ 0) (hm0 : m = []) {k : Nat} (hk : l.length + m.length + 7000 < k) :
    evF Try.prog Γ (k + 1) 5 [roV zl l.length (flatE markE l), roV zm m.length (flatE markE m)] [] = some (.bool true, []) := by
  obtain ⟨k, rfl⟩ : ∃ j, k = j + 1 := ⟨k - 1, by omega⟩
  have c22 := lined22_ok (k := k) (by omega)
  have c23 := check_any l zl (k := k) (by omega)
  have c24 := fault_any l zl (k := k) (by omega)
  have c24m := fault_any m zm (k := k) (by omega)
  have ho := outcome l m zl zm (k := k) (by omega)
  have c17n := equal_ok [] [] true true (by decide) (k := k) (by simp only [List.length_nil]; omega)
  simp only [List.length_nil, flatE_nil, roV_nil, decide_true] at c17n
  unfold Outcome at ho
  simp only at ho
  obtain ⟨n, hn⟩ : ∃ n, l.length = n + 1 := ⟨l.length - 1, by omega⟩
  have c8 := of_some l zl hl (k := k) (by omega) (by omega) _ rfl
  have c21 := lined0_ok l zl hl (k := k) (by omega) _ rfl
  have c17 := c17n
  rw [if_neg he] at c8 c21
  have a0 := at0 hn
  have tl := tkN hn
  rw [hn] at c8 c21 c23 c24 ho
  simp only [roV_succ, ownV_succ, ownB_succ, decide_true] at c8 c21 c17 c23 c24 ho
  subst hm0
  rw [b5 (fun _ _ => rfl) _ _ (by simp)]
  rw [hn]
  generalize faultM [] = FM at *
  generalize faultM l = FL at *
  generalize faultM (lineM l) = EL at *
  simp only [List.length_nil, flatE_nil, roV_succ] at *
  rcases ho with ⟨hf, c16⟩ | ⟨hf, hg, c16⟩ | ⟨hf, hg, e, p, A, he, c16, c26, t1, c21t⟩ | ⟨hf, hg, c16, c26, c21t⟩ | ⟨hf, hg, p, t, A, T, Z, c16, c26, t1, t2, t3, c21t, c17t⟩
  · simp -implicitDefEqProofs [c22, c23, c24, c24m, c8, c21, c17, c16, c17n, hf, he, tl]
  · simp -implicitDefEqProofs [c22, c23, c24, c24m, c8, c21, c17, c16, c17n, hf, hg, he, tl]
  · simp -implicitDefEqProofs [c22, c23, c24, c24m, c8, c21, c17, c16, c17n, hf, hg, he, c26, t1, c21t, c17n, he, tl]
  · simp -implicitDefEqProofs [c22, c23, c24, c24m, c8, c21, c17, c16, c17n, hf, hg, c26, c21t, c17n, he, tl]
  · simp -implicitDefEqProofs [c22, c23, c24, c24m, c8, c21, c17, c16, c17n, hf, hg, c26, t1, t2, t3, c21t, c17t, he, tl]
end Go.Ev.Try

/-
  THE LINE SEAT: LineMakes, marks in both, printed by wip/tools/gen_makes5.py (own work).
-/
import Derived.Test.YthmpoblblgohcaaLmG
set_option linter.unusedSimpArgs false
set_option linter.unusedVariables false
set_option maxRecDepth 100000
set_option maxHeartbeats 4000000
namespace Go.Ev.Try
open Go Go.Ev Go.Proofs

theorem makesE_both (l m : List Mark) (zl zm : Bool) (hl : l.length ≤ 5864062014805) (hm : m.length ≤ 5864062014805) (he : ¬ faultM (lineM l) = 0) (hne : l.length ≠ 0) (hm0 : m.length ≠ 0) {k : Nat} (hk : l.length + m.length + 7000 < k) :
    evF Try.prog Γ (k + 1) 5 [roV zl l.length (flatE markE l), roV zm m.length (flatE markE m)] [] = some (.bool true, []) := by
  obtain ⟨k, rfl⟩ : ∃ j, k = j + 1 := ⟨k - 1, by omega⟩
  have c22 := lined22_ok (k := k) (by omega)
  have c23 := check_any l zl (k := k) (by omega)
  have c24 := fault_any l zl (k := k) (by omega)
  have c24m := fault_any m zm (k := k) (by omega)
  have ho := outcome l m zl zm (k := k) (by omega)
  have c17n := equal_ok [] [] true true (by decide) (k := k) (by simp only [List.length_nil]; omega)
  simp only [List.length_nil, flatE_nil, roV_nil, decide_true] at c17n
  unfold Outcome at ho
  simp only at ho
  obtain ⟨n, hn⟩ : ∃ n, l.length = n + 1 := ⟨l.length - 1, by omega⟩
  have c8 := of_some l zl hl (k := k) (by omega) (by omega) _ rfl
  have c21 := lined0_ok l zl hl (k := k) (by omega) _ rfl
  have c17 := c17n
  rw [if_neg he] at c8 c21
  have a0 := at0 hn
  have tl := tkN hn
  rw [hn] at c8 c21 c23 c24 ho
  simp only [roV_succ, ownV_succ, ownB_succ, decide_true] at c8 c21 c17 c23 c24 ho
  obtain ⟨q, hq⟩ : ∃ q, m.length = q + 1 := ⟨m.length - 1, by omega⟩
  have b0 := at0 hq
  have tm := tkN hq
  rw [hq] at c24m ho
  simp only [roV_succ] at c24m ho
  have c25 := cmpM_ok (l[0]'(by omega)) (m[0]'(by omega)) (k := k) (by omega)
  have c25b := cmpM_ok (m[0]'(by omega)) (l[0]'(by omega)) (k := k) (by omega)
  have tf := two_facts (l[0]'(by omega)) (m[0]'(by omega))
  have c21b := lined0_ok [l[0]'(by omega), m[0]'(by omega)] false (by simp) (k := k) (by simp only [List.length_cons, List.length_nil]; omega) _ rfl
  rw [b5 (fun _ _ => rfl) _ _ (by simp)]
  rw [hn, hq]
  have hn0 : (0 : Int) < (n : Int) + 1 := by omega
  have hq0 : (0 : Int) < (q : Int) + 1 := by omega
  generalize l[0]'(by omega) = x at *
  generalize m[0]'(by omega) = y at *
  generalize hE2 : faultM (lineM [x, y]) = E2 at *
  clear hE2
  generalize faultM l = FL at *
  generalize faultM m = FM at *
  generalize faultM (lineM l) = EL at *
  simp only [markE_f, flatE_cons, flatE_nil, List.cons_append, List.nil_append, List.append_nil, List.length_cons, List.length_nil, roV_succ] at c25 c25b c21b
  by_cases h2 : E2 = 0
  · rw [if_pos h2] at c21b
    rcases tf with ⟨p1, p2, p3, p4⟩ | ⟨p1, p2, p3, p4⟩ | ⟨p1, p2, p3, p4, p5⟩
    · rw [p1] at c25; rw [p2] at c25b; rw [p4] at c21b
      simp only [markE_f, flatE_cons, flatE_nil, List.cons_append, List.nil_append, List.append_nil, List.length_cons, List.length_nil, ownV_succ, ownB_succ] at c21b
      simp -implicitDefEqProofs [c22, c23, c24, c8, c21, c17, he, tl, tm, a0, b0, hn0, hq0, c25, c25b, c21b, eq_mark, wm1, w00, w01, p3]
      rcases ho with ⟨hf, c16⟩ | ⟨hf, hg, c16⟩ | ⟨hf, hg, e, p, A, he, c16, c26, t1, c21t⟩ | ⟨hf, hg, c16, c26, c21t⟩ | ⟨hf, hg, p, t, A, T, Z, c16, c26, t1, t2, t3, c21t, c17t⟩
      · simp -implicitDefEqProofs [c22, c23, c24, c24m, c8, c21, c17, c16, c17n, hf, he, tl, tm, a0, b0, hn0, hq0, c25, c25b, c21b, eq_mark, wm1, w00, w01, p3]
      · simp -implicitDefEqProofs [c22, c23, c24, c24m, c8, c21, c17, c16, c17n, hf, hg, he, tl, tm, a0, b0, hn0, hq0, c25, c25b, c21b, eq_mark, wm1, w00, w01, p3]
      · simp -implicitDefEqProofs [c22, c23, c24, c24m, c8, c21, c17, c16, c17n, hf, hg, he, c26, t1, c21t, c17n, he, tl, tm, a0, b0, hn0, hq0, c25, c25b, c21b, eq_mark, wm1, w00, w01, p3]
      · simp -implicitDefEqProofs [c22, c23, c24, c24m, c8, c21, c17, c16, c17n, hf, hg, c26, c21t, c17n, he, tl, tm, a0, b0, hn0, hq0, c25, c25b, c21b, eq_mark, wm1, w00, w01, p3]
      · simp -implicitDefEqProofs [c22, c23, c24, c24m, c8, c21, c17, c16, c17n, hf, hg, c26, t1, t2, t3, c21t, c17t, he, tl, tm, a0, b0, hn0, hq0, c25, c25b, c21b, eq_mark, wm1, w00, w01, p3]
    · rw [p1] at c25; rw [p2] at c25b; rw [p4] at c21b
      subst p3
      simp only [markE_f, flatE_cons, flatE_nil, List.cons_append, List.nil_append, List.append_nil, List.length_cons, List.length_nil, ownV_succ, ownB_succ] at c21b
      simp -implicitDefEqProofs [c22, c23, c24, c8, c21, c17, he, tl, tm, a0, b0, hn0, hq0, c25, c25b, c21b, eq_mark, wm1, w00, w01]
      rcases ho with ⟨hf, c16⟩ | ⟨hf, hg, c16⟩ | ⟨hf, hg, e, p, A, he, c16, c26, t1, c21t⟩ | ⟨hf, hg, c16, c26, c21t⟩ | ⟨hf, hg, p, t, A, T, Z, c16, c26, t1, t2, t3, c21t, c17t⟩
      · simp -implicitDefEqProofs [c22, c23, c24, c24m, c8, c21, c17, c16, c17n, hf, he, tl, tm, a0, b0, hn0, hq0, c25, c25b, c21b, eq_mark, wm1, w00, w01]
      · simp -implicitDefEqProofs [c22, c23, c24, c24m, c8, c21, c17, c16, c17n, hf, hg, he, tl, tm, a0, b0, hn0, hq0, c25, c25b, c21b, eq_mark, wm1, w00, w01]
      · simp -implicitDefEqProofs [c22, c23, c24, c24m, c8, c21, c17, c16, c17n, hf, hg, he, c26, t1, c21t, c17n, he, tl, tm, a0, b0, hn0, hq0, c25, c25b, c21b, eq_mark, wm1, w00, w01]
      · simp -implicitDefEqProofs [c22, c23, c24, c24m, c8, c21, c17, c16, c17n, hf, hg, c26, c21t, c17n, he, tl, tm, a0, b0, hn0, hq0, c25, c25b, c21b, eq_mark, wm1, w00, w01]
      · simp -implicitDefEqProofs [c22, c23, c24, c24m, c8, c21, c17, c16, c17n, hf, hg, c26, t1, t2, t3, c21t, c17t, he, tl, tm, a0, b0, hn0, hq0, c25, c25b, c21b, eq_mark, wm1, w00, w01]
    · rw [p1] at c25; rw [p2] at c25b; rw [p5] at c21b
      simp only [markE_f, flatE_cons, flatE_nil, List.cons_append, List.nil_append, List.append_nil, List.length_cons, List.length_nil, ownV_succ, ownB_succ] at c21b
      simp -implicitDefEqProofs [c22, c23, c24, c8, c21, c17, he, tl, tm, a0, b0, hn0, hq0, c25, c25b, c21b, eq_mark, wm1, w00, w01, p3, p4]
      rcases ho with ⟨hf, c16⟩ | ⟨hf, hg, c16⟩ | ⟨hf, hg, e, p, A, he, c16, c26, t1, c21t⟩ | ⟨hf, hg, c16, c26, c21t⟩ | ⟨hf, hg, p, t, A, T, Z, c16, c26, t1, t2, t3, c21t, c17t⟩
      · simp -implicitDefEqProofs [c22, c23, c24, c24m, c8, c21, c17, c16, c17n, hf, he, tl, tm, a0, b0, hn0, hq0, c25, c25b, c21b, eq_mark, wm1, w00, w01, p3, p4]
      · simp -implicitDefEqProofs [c22, c23, c24, c24m, c8, c21, c17, c16, c17n, hf, hg, he, tl, tm, a0, b0, hn0, hq0, c25, c25b, c21b, eq_mark, wm1, w00, w01, p3, p4]
      · simp -implicitDefEqProofs [c22, c23, c24, c24m, c8, c21, c17, c16, c17n, hf, hg, he, c26, t1, c21t, c17n, he, tl, tm, a0, b0, hn0, hq0, c25, c25b, c21b, eq_mark, wm1, w00, w01, p3, p4]
      · simp -implicitDefEqProofs [c22, c23, c24, c24m, c8, c21, c17, c16, c17n, hf, hg, c26, c21t, c17n, he, tl, tm, a0, b0, hn0, hq0, c25, c25b, c21b, eq_mark, wm1, w00, w01, p3, p4]
      · simp -implicitDefEqProofs [c22, c23, c24, c24m, c8, c21, c17, c16, c17n, hf, hg, c26, t1, t2, t3, c21t, c17t, he, tl, tm, a0, b0, hn0, hq0, c25, c25b, c21b, eq_mark, wm1, w00, w01, p3, p4]
  · rw [if_neg h2] at c21b
    rcases tf with ⟨p1, p2, p3, p4⟩ | ⟨p1, p2, p3, p4⟩ | ⟨p1, p2, p3, p4, p5⟩
    · rw [p1] at c25; rw [p2] at c25b
      simp -implicitDefEqProofs [c22, c23, c24, c8, c21, c17, he, tl, tm, a0, b0, hn0, hq0, c25, c25b, c21b, eq_mark, wm1, w00, w01, p3]
      rcases ho with ⟨hf, c16⟩ | ⟨hf, hg, c16⟩ | ⟨hf, hg, e, p, A, he, c16, c26, t1, c21t⟩ | ⟨hf, hg, c16, c26, c21t⟩ | ⟨hf, hg, p, t, A, T, Z, c16, c26, t1, t2, t3, c21t, c17t⟩
      · simp -implicitDefEqProofs [c22, c23, c24, c24m, c8, c21, c17, c16, c17n, hf, he, tl, tm, a0, b0, hn0, hq0, c25, c25b, c21b, eq_mark, wm1, w00, w01, p3]
      · simp -implicitDefEqProofs [c22, c23, c24, c24m, c8, c21, c17, c16, c17n, hf, hg, he, tl, tm, a0, b0, hn0, hq0, c25, c25b, c21b, eq_mark, wm1, w00, w01, p3]
      · simp -implicitDefEqProofs [c22, c23, c24, c24m, c8, c21, c17, c16, c17n, hf, hg, he, c26, t1, c21t, c17n, he, tl, tm, a0, b0, hn0, hq0, c25, c25b, c21b, eq_mark, wm1, w00, w01, p3]
      · simp -implicitDefEqProofs [c22, c23, c24, c24m, c8, c21, c17, c16, c17n, hf, hg, c26, c21t, c17n, he, tl, tm, a0, b0, hn0, hq0, c25, c25b, c21b, eq_mark, wm1, w00, w01, p3]
      · simp -implicitDefEqProofs [c22, c23, c24, c24m, c8, c21, c17, c16, c17n, hf, hg, c26, t1, t2, t3, c21t, c17t, he, tl, tm, a0, b0, hn0, hq0, c25, c25b, c21b, eq_mark, wm1, w00, w01, p3]
    · rw [p1] at c25; rw [p2] at c25b
      subst p3
      simp -implicitDefEqProofs [c22, c23, c24, c8, c21, c17, he, tl, tm, a0, b0, hn0, hq0, c25, c25b, c21b, eq_mark, wm1, w00, w01]
      rcases ho with ⟨hf, c16⟩ | ⟨hf, hg, c16⟩ | ⟨hf, hg, e, p, A, he, c16, c26, t1, c21t⟩ | ⟨hf, hg, c16, c26, c21t⟩ | ⟨hf, hg, p, t, A, T, Z, c16, c26, t1, t2, t3, c21t, c17t⟩
      · simp -implicitDefEqProofs [c22, c23, c24, c24m, c8, c21, c17, c16, c17n, hf, he, tl, tm, a0, b0, hn0, hq0, c25, c25b, c21b, eq_mark, wm1, w00, w01]
      · simp -implicitDefEqProofs [c22, c23, c24, c24m, c8, c21, c17, c16, c17n, hf, hg, he, tl, tm, a0, b0, hn0, hq0, c25, c25b, c21b, eq_mark, wm1, w00, w01]
      · simp -implicitDefEqProofs [c22, c23, c24, c24m, c8, c21, c17, c16, c17n, hf, hg, he, c26, t1, c21t, c17n, he, tl, tm, a0, b0, hn0, hq0, c25, c25b, c21b, eq_mark, wm1, w00, w01]
      · simp -implicitDefEqProofs [c22, c23, c24, c24m, c8, c21, c17, c16, c17n, hf, hg, c26, c21t, c17n, he, tl, tm, a0, b0, hn0, hq0, c25, c25b, c21b, eq_mark, wm1, w00, w01]
      · simp -implicitDefEqProofs [c22, c23, c24, c24m, c8, c21, c17, c16, c17n, hf, hg, c26, t1, t2, t3, c21t, c17t, he, tl, tm, a0, b0, hn0, hq0, c25, c25b, c21b, eq_mark, wm1, w00, w01]
    · rw [p1] at c25; rw [p2] at c25b
      simp -implicitDefEqProofs [c22, c23, c24, c8, c21, c17, he, tl, tm, a0, b0, hn0, hq0, c25, c25b, c21b, eq_mark, wm1, w00, w01, p3, p4]
      rcases ho with ⟨hf, c16⟩ | ⟨hf, hg, c16⟩ | ⟨hf, hg, e, p, A, he, c16, c26, t1, c21t⟩ | ⟨hf, hg, c16, c26, c21t⟩ | ⟨hf, hg, p, t, A, T, Z, c16, c26, t1, t2, t3, c21t, c17t⟩
      · simp -implicitDefEqProofs [c22, c23, c24, c24m, c8, c21, c17, c16, c17n, hf, he, tl, tm, a0, b0, hn0, hq0, c25, c25b, c21b, eq_mark, wm1, w00, w01, p3, p4]
      · simp -implicitDefEqProofs [c22, c23, c24, c24m, c8, c21, c17, c16, c17n, hf, hg, he, tl, tm, a0, b0, hn0, hq0, c25, c25b, c21b, eq_mark, wm1, w00, w01, p3, p4]
      · simp -implicitDefEqProofs [c22, c23, c24, c24m, c8, c21, c17, c16, c17n, hf, hg, he, c26, t1, c21t, c17n, he, tl, tm, a0, b0, hn0, hq0, c25, c25b, c21b, eq_mark, wm1, w00, w01, p3, p4]
      · simp -implicitDefEqProofs [c22, c23, c24, c24m, c8, c21, c17, c16, c17n, hf, hg, c26, c21t, c17n, he, tl, tm, a0, b0, hn0, hq0, c25, c25b, c21b, eq_mark, wm1, w00, w01, p3, p4]
      · simp -implicitDefEqProofs [c22, c23, c24, c24m, c8, c21, c17, c16, c17n, hf, hg, c26, t1, t2, t3, c21t, c17t, he, tl, tm, a0, b0, hn0, hq0, c25, c25b, c21b, eq_mark, wm1, w00, w01, p3, p4]
end Go.Ev.Try

/-
  THE LINE SEAT: LineMakes: what Merge and Concat yield, printed by wip/tools/gen_makes5.py (own work).
-/
import Derived.Test.YthmpoblblgohcaaLmF
set_option linter.unusedSimpArgs false
set_option linter.unusedVariables false
set_option maxRecDepth 100000
set_option maxHeartbeats 4000000
namespace Go.Ev.Try
open Go Go.Ev Go.Proofs

theorem at0 {l : List Mark} {n : Nat} (h : l.length = n + 1) : List.take 3 (flatE markE l) = [.int .i64 (l[0]'(by omega)).id, .int .i64 (l[0]'(by omega)).low, .int .i64 (l[0]'(by omega)).high] := by
  have h1 := at_marks l 0 (by omega)
  rw [Nat.zero_mul, List.drop_zero] at h1
  exact h1
theorem wm1 : IntKind.i64.wrap (-1) = -1 := by decide
theorem w00 : IntKind.i64.wrap 0 = 0 := by decide
theorem w01 : IntKind.i64.wrap 1 = 1 := by decide
theorem tkN {l : List Mark} {n : Nat} (h : l.length = n) : List.take (n * 3) (flatE markE l) = flatE markE l := by rw [List.take_of_length_le]; simp [h]
/-- What the law's end sees. -/
def Outcome (l m : List Mark) (zl zm : Bool) (k : Nat) : Prop :=
  let c16 := evF Try.prog Γ (k + 1) 16 [.ros 2 [roV zl l.length (flatE markE l), roV zm m.length (flatE markE m)]] []
  let c26 := evF Try.prog Γ (k + 1) 26 [.ros 2 [roV zl l.length (flatE markE l), roV zm m.length (flatE markE m)]] []
  (¬ faultM l = 0 ∧ c16 = some (.tup [.nils, .int .i64 (faultM l)], [none])) ∨
  (faultM l = 0 ∧ ¬ faultM m = 0 ∧ c16 = some (.tup [.nils, .int .i64 (faultM m)], [none])) ∨
  (faultM l = 0 ∧ faultM m = 0 ∧ ∃ (e : Int) (p : Nat) (A : List Mark), ¬ e = 0 ∧ c16 = some (.tup [.nils, .int .i64 e], [none]) ∧ c26 = some (.sl 0 0 (p + 1) 3, [some (.cells (flatE markE A) false)]) ∧ List.take ((p + 1) * 3) (flatE markE A) = flatE markE A ∧ evF Try.prog Γ (k + 1) 21 [.ros (p + 1) (flatE markE A)] [] = some (.tup [.nils, .int .i64 e], [none])) ∨
  (faultM l = 0 ∧ faultM m = 0 ∧ c16 = some (.tup [.nils, .int .i64 0], [none]) ∧ c26 = some (.nils, [none]) ∧ evF Try.prog Γ (k + 1) 21 [.nils] [] = some (.tup [.nils, .int .i64 0], [none])) ∨
  (faultM l = 0 ∧ faultM m = 0 ∧ ∃ (p t : Nat) (A T Z : List Mark), c16 = some (.tup [.sl 0 0 (t + 1) 3, .int .i64 0], [some (.cells (flatE markE T ++ flatE markE Z) false)]) ∧ c26 = some (.sl 0 0 (p + 1) 3, [some (.cells (flatE markE A) false)]) ∧
    List.take ((p + 1) * 3) (flatE markE A) = flatE markE A ∧ List.take ((t + 1) * 3) (flatE markE T) = flatE markE T ∧ List.take ((t + 1) * 3) (flatE markE T ++ flatE markE Z) = flatE markE T ∧
    evF Try.prog Γ (k + 1) 21 [.ros (p + 1) (flatE markE A)] [] = some (.tup [.sl 0 0 (t + 1) 3, .int .i64 0], [some (.cells (flatE markE T) false)]) ∧
    evF Try.prog Γ (k + 1) 17 [.ros (t + 1) (flatE markE T), .ros (t + 1) (flatE markE T)] [] = some (.bool true, []))
theorem outcome (l m : List Mark) (zl zm : Bool) {k : Nat} (hk : 6000 < k) : Outcome l m zl zm k := by
  obtain ⟨k, rfl⟩ : ∃ j, k = j + 1 := ⟨k - 1, by omega⟩
  unfold Outcome
  simp only
  have hls : listsV [(zl, l), (zm, m)] = [roV zl l.length (flatE markE l), roV zm m.length (flatE markE m)] := rfl
  have hlv : [(zl, l), (zm, m)].map lvT = [roV zl l.length (flatE markE l), roV zm m.length (flatE markE m)] := rfl
  have hall : allOf [(zl, l), (zm, m)] = l ++ m := by simp [allOf]
  have hcat : catT [(zl, l), (zm, m)] = l ++ m := by simp [catT]
  have hff : firstFault [(zl, l), (zm, m)] = if faultM l = 0 then faultM m else faultM l := by
    simp only [firstFault]
    by_cases h1 : faultM m = 0 <;> simp [h1]
  have c16 : ∀ d e Z, (firstFault [(zl, l), (zm, m)] = 0 → evF Try.prog Γ (k + 1) 8 [roV true (l ++ m).length (flatE markE (l ++ m))] [] = some (.tup [ownV true 0 0 d 3, .int .i64 e], [ownB true d (flatE markE Z)])) → _ := fun d e Z h => merge_any [(zl, l), (zm, m)] (by simp) d e Z (k := k + 1) (by omega) (by rw [hall]; exact h)
  rw [hls, hff] at c16
  have c26 := fun h => concat_marks [(zl, l), (zm, m)] (by simp) h (k := k + 1) (by omega)
  rw [hlv, hcat] at c26
  by_cases hl : faultM l = 0
  · by_cases hm : faultM m = 0
    · have hl4 := (valid_of hl).len
      have hm4 := (valid_of hm).len
      have hA : (l ++ m).length ≤ 800 := by simp; omega
      have c8 := of_all (l ++ m) (by omega) (k := k) (by omega)
      have c16 := c16 _ _ _ fun _ => c8
      rw [if_pos hl, if_pos hm] at c16
      have c26 := c26 (by omega)
      have c21 := fun z => lined0_ok (l ++ m) z (by omega) (k := k + 1) (by omega) _ rfl
      have hmem := lineM_mem (l ++ m)
      have hlen := lineM_len (l ++ m)
      generalize l ++ m = A at *
      cases hA0 : A.length with
      | zero =>
        obtain rfl : A = [] := List.length_eq_zero_iff.1 hA0
        have hL : lineM [] = [] := rfl
        have hf : faultM [] = 0 := rfl
        have c21 := c21 true
        simp only [ofLen, hL, hf, if_true, List.length_nil, ownV_nil, ownB_nil, roV_nil] at c16 c26 c21
        refine .inr (.inr (.inr (.inl ⟨hl, hm, ?_, ?_, ?_⟩)))
        · simpa using c16
        · simpa using c26
        · simpa using c21
      | succ p =>
        have c21 := c21 false
        rw [hA0] at c26 c21
        simp only [ownV_succ, ownB_succ, roV_false] at c26 c21
        have t1 := tkN hA0
        by_cases he : faultM (lineM A) = 0
        · have hpos : 0 < (lineM A).length := List.length_pos_of_mem ((hmem (A[0]'(by omega))).2 (List.getElem_mem _))
          obtain ⟨t, ht⟩ : ∃ t, (lineM A).length = t + 1 := ⟨(lineM A).length - 1, by omega⟩
          have hof : ofLen A = t + 1 := by unfold ofLen; rw [if_pos he, ht]
          rw [hof, he, flatE_append, ht] at c16
          rw [if_pos he, ht] at c21
          have c17 := equal_ok (lineM A) (lineM A) false false (by omega) (k := k + 1) (by omega)
          rw [ht] at c17
          simp only [ownV_succ, ownB_succ, roV_false] at c16 c21 c17
          have t2 := tkN ht
          refine .inr (.inr (.inr (.inr ⟨hl, hm, p, t, A, lineM A, _, c16, c26, t1, t2, ?_, c21, by simpa using c17⟩)))
          rw [List.take_append_of_le_length (by simp [ht])]
          exact t2
        · rw [if_neg he] at c21
          have hof : ofLen A = 0 := if_neg he
          rw [hof] at c16
          simp only [ownV_nil, ownB_nil] at c16
          exact .inr (.inr (.inl ⟨hl, hm, faultM (lineM A), p, A, he, c16, c26, t1, c21⟩))
    · have c16 := c16 0 0 [] fun h => absurd h (by rw [if_pos hl]; exact hm)
      rw [if_pos hl, if_neg hm] at c16
      exact .inr (.inl ⟨hl, hm, c16⟩)
  · have c16 := c16 0 0 [] fun h => absurd h (by rw [if_neg hl]; exact hl)
    rw [if_neg hl, if_neg hl] at c16
    exact .inl ⟨hl, c16⟩
end Go.Ev.Try

/-
  THE LINE SEAT: the law LineWindows, its walk (own work).
-/
import Derived.Test.YthmpoblblgohcaaLineU
set_option linter.unusedSimpArgs false
set_option linter.unusedVariables false
set_option maxRecDepth 100000
set_option maxHeartbeats 4000000
namespace Go.Ev.Try
open Go Go.Ev Go.Proofs

theorem law4_ok (l : List Int) (z : Bool) (low0 n0 : Int) {k : Nat} (hk : 9000 < k) :
    evF Try.prog Γ (k + 1) 4 [roV z l.length (flatE (intE .i64) l), .int .i64 low0, .int .i64 n0] [] = some (.bool true, []) := by
  obtain ⟨k, rfl⟩ : ∃ j, k = j + 2 := ⟨k - 2, by omega⟩
  obtain ⟨ms, hM, h11, c1⟩ := marks_ok l z (k := k + 1) (by omega)
  have hV := hM.valid (by omega)
  have c2 := of_ok ms (by omega) hV (k := k + 1) (by omega)
  have hlen := isort_length ms
  have c5 := lined_ok (k := k + 1) (by omega)
  have q60 := below_ok low0 60 (by omega) (by omega) (k := k + 1)
  have q30 := below_ok n0 30 (by omega) (by omega) (k := k + 1)
  have p60 := Int.emod_nonneg low0 (show (60 : Int) ≠ 0 by omega)
  have p60' := Int.emod_lt_of_pos low0 (show (0 : Int) < 60 by omega)
  have p30 := Int.emod_nonneg n0 (show (30 : Int) ≠ 0 by omega)
  have p30' := Int.emod_lt_of_pos n0 (show (0 : Int) < 30 by omega)
  have e1 : subI .i64 (low0 % 60) 20 = low0 % 60 - 20 := subI_i64 (by omega) (by omega)
  have e2 : addI .i64 (low0 % 60 - 20) (n0 % 30) = low0 % 60 - 20 + n0 % 30 := addI_i64 (by omega) (by omega)
  have c6 := maybe_ok (isort ms) true (low0 % 60 - 20) (low0 % 60 - 20 + n0 % 30) hV (k := k + 1) (by omega)
  have c7 := surely_ok (isort ms) true (low0 % 60 - 20) (low0 % 60 - 20 + n0 % 30) hV (k := k + 1) (by omega)
  generalize low0 % 60 - 20 + n0 % 30 = high at *
  generalize low0 % 60 - 20 = low at *
  generalize low0 % 60 = r60 at *
  generalize n0 % 30 = r30 at *
  have hsm : ∀ m ∈ (isort ms).filter (surelyP low high), m ∈ (isort ms).filter (maybeP high low) := fun m hm => by
    obtain ⟨h1, h2⟩ := List.mem_filter.1 hm
    refine List.mem_filter.2 ⟨h1, ?_⟩
    have h3 := (hV.range m h1).2.2
    simp only [surelyP, maybeP, Bool.and_eq_true, decide_eq_true_eq] at h2 ⊢
    omega
  have hmayS : ((isort ms).filter (maybeP high low)).Sublist (isort ms) := List.filter_sublist
  have hsureS : ((isort ms).filter (surelyP low high)).length ≤ (isort ms).length := List.length_filter_le _ _
  generalize (isort ms).filter (maybeP high low) = May at *
  generalize (isort ms).filter (surelyP low high) = Sure at *
  rw [b4 (fun _ _ => rfl) _ _ (by simp)]
  generalize isort ms = S at *
  cases hn : ms.length with
  | zero =>
    have hS : S = [] := List.length_eq_zero_iff.1 (by omega)
    subst hS
    have hMay : May = [] := List.eq_nil_of_sublist_nil hmayS
    subst hMay
    have hSure : Sure = [] := List.length_eq_zero_iff.1 (by simpa using hsureS)
    subst hSure
    rw [hn] at c1 c2
    have c8 := of_ok [] (by decide) hV (k := k) (by simp only [List.length_nil]; omega)
    have c16 := merge_ok [(true, []), (true, []), (true, [])] (fun x hx => by simp at hx; subst hx; exact hV) (by decide) 0 0 [] (k := k + 1) (by omega) (by simpa [allOf] using c8)
    have c17 := equal_ok [] [] true true (by decide) (k := k + 1) (by simp only [List.length_nil]; omega)
    have c18 := any_ok 19 [roV true 0 (flatE markE [])] (fun m => !decide (m ∈ ([] : List Mark))) rfl [] true (by decide) (k := k) (by omega) (fun m => by
      have := out_ok m [] true (by decide) (k := k - 1) (by omega)
      rwa [show k - 1 + 1 = k by omega] at this)
    have q1 := below_ok n0 1 (by omega) (by omega) (k := k + 1)
    rw [Int.emod_one] at q1
    have e9 : addI .i64 0 1 = 1 := addI_i64 (by omega) (by omega)
    simp [listsV] at c1 c2 c6 c7 c16 c17 c18
    simp -implicitDefEqProofs [c1, c2, c5, c6, c7, c16, c17, c18, q60, q30, q1, e1, e2, e9]
  | succ n =>
    rw [hn] at c1 c2 hlen
    rw [hlen] at c6 c7
    have t1 : List.take ((n + 1) * 3) (flatE markE S) = flatE markE S := by rw [List.take_of_length_le]; simp [hlen]
    have t2 : List.take ((n + 1) * 3) (flatE markE ms) = flatE markE ms := by rw [List.take_of_length_le]; simp [hn]
    simp only [roV_succ, ownV_succ, ownB_succ] at c1 c2 c6 c7
    have e3 : addI .i64 ((n : Int) + 1) 1 = (n : Int) + 2 := by rw [addI_i64 (by omega) (by omega)]; omega
    have qk := below_ok n0 ((n : Int) + 2) (by omega) (by omega) (k := k + 1)
    obtain ⟨K, hK, hKn⟩ : ∃ K : Nat, n0 % ((n : Int) + 2) = K ∧ K ≤ n + 1 := by
      have h1 := Int.emod_nonneg n0 (show (n : Int) + 2 ≠ 0 by omega)
      have h2 := Int.emod_lt_of_pos n0 (show (0 : Int) < (n : Int) + 2 by omega)
      exact ⟨(n0 % ((n : Int) + 2)).toNat, by omega, by omega⟩
    rw [hK] at qk
    have hKi : (K : Int) ≤ (n : Int) + 1 := by omega
    have f1 : List.take ((n + 1 - K) * 3) (List.drop (K * 3) (flatE markE S)) = flatE markE (S.drop K) := by
      rw [drop_flatE' (n := 3) markE rfl, List.take_of_length_le]; simp [hlen]
    have f2 : List.take (K * 3) (flatE markE S) = flatE markE (S.take K) := take_flatE' (n := 3) markE rfl S K
    have l1 : (S.drop K).length = n + 1 - K := by simp [hlen]
    have l2 : (S.take K).length = K := by simp [hlen]; omega
    have hMayl : May.length ≤ n + 1 := by have := hmayS.length_le; omega
    have hall : ∀ x, x ∈ S.drop K ++ (S.take K ++ May) ↔ x ∈ S := fun x => by
      constructor
      · intro h
        rcases List.mem_append.1 h with h | h
        · exact List.mem_of_mem_drop h
        · rcases List.mem_append.1 h with h | h
          · exact List.mem_of_mem_take h
          · exact hmayS.subset h
      · intro h
        rw [← List.take_append_drop K S] at h
        rcases List.mem_append.1 h with h | h
        · exact List.mem_append_right _ (List.mem_append_left _ h)
        · exact List.mem_append_left _ h
    have hd := merged S _ hV hall
    have hAl : (S.drop K ++ (S.take K ++ May)).length = n + 1 + May.length := by simp only [List.length_append, l1, l2]; omega
    have c8 := of_any (S.drop K ++ (S.take K ++ May)) (by omega) (by rw [hd]; exact hV) (k := k) (by omega) (by omega)
    rw [hd, hlen] at c8
    generalize hR : List.replicate ((S.drop K ++ (S.take K ++ May)).length - (n + 1)) mark0 = R0 at *
    have c16 := merge_ok [(false, S.drop K), (false, S.take K), (true, May)] (fun x hx => by
        simp at hx
        rcases hx with rfl | rfl | rfl
        · exact hV.sublist (List.drop_sublist _ _)
        · exact hV.sublist (List.take_sublist _ _)
        · exact hV.sublist hmayS) (by simp) (n + 1) 0 (S ++ R0) (k := k + 1) (by omega) (by simpa [allOf] using c8)
    have f3 : List.take ((n + 1) * 3) (flatE markE S ++ flatE markE R0) = flatE markE S := by
      rw [List.take_append_of_le_length (by simp [hlen])]; exact t1
    have c17 := equal_ok S S false false (by omega) (k := k + 1) (by omega)
    have c18 := any_ok 19 [roV true May.length (flatE markE May)] (fun m => !decide (m ∈ May)) rfl Sure true (by omega) (k := k) (by omega) (fun m => by
      have := out_ok m May true (by omega) (k := k - 1) (by omega)
      rwa [show k - 1 + 1 = k by omega] at this)
    have hany : (Sure.any fun m => !decide (m ∈ May)) = false := by
      rw [List.any_eq_false]
      intro m hm
      simp [hsm m hm]
    rw [hany] at c18
    rw [hlen] at c17
    simp only [listsV, List.map_cons, List.map_nil, l1, l2, List.length_cons, List.length_nil, roV_false, ownV_succ, ownB_succ, flatE_append] at c16 c17
    simp at c16 c17
    cases hM0 : May.length with
    | zero =>
      have hMay : May = [] := List.length_eq_zero_iff.1 hM0
      subst hMay
      have hSure : Sure = [] := List.eq_nil_iff_forall_not_mem.2 fun m hm => by simpa using hsm m hm
      subst hSure
      simp at c6 c7 c16 c18
      simp -implicitDefEqProofs [c1, c2, c5, c6, c7, t1, t2, q60, q30, e1, e2, e3, qk, f1, f2, f3, c16, c17, c18, hKi, hKn]
    | succ a =>
      rw [hM0] at c6 c16 c18
      have tm : List.take ((a + 1) * 3) (flatE markE May) = flatE markE May := by rw [List.take_of_length_le]; simp [hM0]
      cases hS0 : Sure.length with
      | zero =>
        have hSure : Sure = [] := List.length_eq_zero_iff.1 hS0
        subst hSure
        simp at c6 c7 c16 c18
        simp -implicitDefEqProofs [c1, c2, c5, c6, c7, t1, t2, tm, q60, q30, e1, e2, e3, qk, f1, f2, f3, c16, c17, c18, hKi, hKn]
      | succ b =>
        rw [hS0] at c7 c18
        have ts : List.take ((b + 1) * 3) (flatE markE Sure) = flatE markE Sure := by rw [List.take_of_length_le]; simp [hS0]
        simp only [roV_succ, ownV_succ, ownB_succ] at c6 c7 c16 c18
        simp -implicitDefEqProofs [c1, c2, c5, c6, c7, t1, t2, tm, ts, q60, q30, e1, e2, e3, qk, f1, f2, f3, c16, c17, c18, hKi, hKn]
end Go.Ev.Try

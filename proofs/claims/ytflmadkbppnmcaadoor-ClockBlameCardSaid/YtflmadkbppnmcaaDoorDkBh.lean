/-
  THE CLOCK DOOR SEAT (printed by wip/tools/port.py): slices.Delete of one number; the culprits, plain (own work).
-/
import Derived.Test.YtflmadkbppnmcaaDoorDkBf
set_option linter.unusedSimpArgs false
set_option linter.unusedVariables false
set_option maxRecDepth 100000
set_option maxHeartbeats 4000000
namespace Go.Ev.Tryd
open Go Go.Ev Go.Proofs

/-- Deleted within its block. -/
theorem delete_ok (K : List Int) (z i n : Nat) (hK : K.length = n + 1) (hi : i < n + 1) (hn : n ≤ 1000) {k : Nat} :
    evF Tryd.prog Γ (k + 1) 27 [.sl 0 0 (n + 1) 1, .int .i64 i, .int .i64 ((i : Int) + 1)] [some (.cells (flatE (intE .i64) (K ++ List.replicate z 0)) false)] =
      some (.sl 0 0 n 1, [some (.cells (flatE (intE .i64) (K.eraseIdx i ++ List.replicate (z + 1) 0)) false), none]) := by
  have h1 : (i : Int) < (n : Int) + 1 := by omega
  have h2 : (i : Int) + 1 ≤ (n : Int) + 1 := by omega
  have h3 : ¬ (i : Int) = (i : Int) + 1 := by omega
  have h4 : ((i : Int) + 1).toNat = i + 1 := by omega
  have h5 : (0 : Int) ≤ (i : Int) + 1 := by omega
  have h6 : (0 : Int) ≤ (n : Int) + 1 := by omega
  have h7 : ((n : Int) + 1).toNat = n + 1 := by omega
  have h8 : i ≤ n + 1 := by omega
  have h9 : i + 1 ≤ n + 1 := by omega
  have hsl : ∀ H, sliceV Tryd.prog H 22 (.sl 0 0 (n + 1) 1) (some (.int .i64 i)) (some (.int .i64 ((i : Int) + 1))) (some (.int .i64 ((n : Int) + 1))) = some .junk := by
    intro H
    simp [sliceV, slice3V, boundV, h4, h5, h6, h7, h8, h9]
  rw [b27 (fun _ _ => rfl) _ _ (by simp)]
  have hlt : i < K.length := by omega
  have her : K.eraseIdx i = K.take i ++ K.drop (i + 1) := List.eraseIdx_eq_take_drop_succ ..
  have hB : (K.drop (i + 1)).length = n - i := by simp [hK]
  have hA : (K.take i).length = i := by simp; omega
  obtain ⟨y, hy⟩ : ∃ y, K.drop n = [y] := by
    cases hd : K.drop n with
    | nil => have := congrArg List.length hd; simp [hK] at this
    | cons y R =>
      have := congrArg List.length hd
      simp [hK] at this
      exact ⟨y, by rw [this]⟩
  have hWl : (K ++ List.replicate z (0 : Int)).length = n + 1 + z := by simp [hK]
  have w1 : (K ++ List.replicate z (0 : Int)).take i = K.take i := List.take_append_of_le_length (by omega)
  have w2 : ((K ++ List.replicate z (0 : Int)).drop (i + 1)).take (n - i) = K.drop (i + 1) := by
    rw [List.drop_append_of_le_length (by omega), List.take_append_of_le_length (by omega), List.take_of_length_le (by omega)]
  have w3 : (K ++ List.replicate z (0 : Int)).drop n = y :: List.replicate z 0 := by
    rw [List.drop_append_of_le_length (by omega), hy]; rfl
  generalize K ++ List.replicate z (0 : Int) = W at *
  have hPt : List.take (n - i) (List.drop (i + 1) (flatE (intE .i64) W)) = flatE (intE .i64) (K.drop (i + 1)) := by
    rw [drop_flatE1 (intE .i64) rfl, take_flatE1 (intE .i64) rfl, w2]
  have h10 : n ≤ W.length - (i + 1) + i := by omega
  have hQ : ∀ v, flatE (intE .i64) (K.eraseIdx i ++ v :: List.replicate z 0) = flatE (intE .i64) (K.take i) ++ flatE (intE .i64) (K.drop (i + 1)) ++ flatE (intE .i64) (v :: List.replicate z 0) := fun v => by rw [her, flatE_append, flatE_append]
  have hEl : (K.eraseIdx i).length = n := by rw [her, List.length_append, hA, hB]; omega
  have happ : appendS [some (.cells (flatE (intE .i64) W) false)] 1 8 (.sl 0 0 i 1) (n - i) (flatE (intE .i64) (K.drop (i + 1))) = some (.sl 0 0 n 1, [some (.cells (flatE (intE .i64) (K.eraseIdx i ++ y :: List.replicate z 0)) false)]) := by
    have hl : (flatE (intE .i64) W).length = n + 1 + z := by simp [hWl]
    simp only [appendS, List.getElem?_cons_zero, bne_self_eq_false, Bool.false_eq_true, if_false]
    by_cases h0 : n - i = 0
    · have hin : i = n := by omega
      subst hin
      rw [if_pos (by omega), hQ]
      have hd0 : K.drop (i + 1) = [] := List.drop_of_length_le (by omega)
      rw [hd0, flatE_nil, List.append_nil, ← flatE_append, ← w1, ← w3, List.take_append_drop]
    · rw [if_neg h0, if_pos (by omega)]
      simp only [writeCells, List.getElem?_cons_zero]
      rw [if_pos (by rw [hl]; simp; omega)]
      simp only [Option.map_some, List.set_cons_zero]
      rw [show i + (n - i) = n by omega, hQ]
      have t1 : List.take (0 + i * 1) (flatE (intE .i64) W) = flatE (intE .i64) (K.take i) := by rw [Nat.zero_add, Nat.mul_one, take_flatE1 (intE .i64) rfl, w1]
      have t2 : List.drop (0 + i * 1 + (flatE (intE .i64) (K.drop (i + 1))).length) (flatE (intE .i64) W) = flatE (intE .i64) (y :: List.replicate z 0) := by
        rw [flatE_length, hB, ← w3, ← drop_flatE1 (intE .i64) rfl]
        congr 1
        show 0 + i * 1 + (n - i) * 1 = n
        omega
      rw [t1, t2]
  have hbey : ∀ Q, Q.length = n + 1 + z → sliceV Tryd.prog [some (.cells Q false)] 22 (.sl 0 0 n 1) (some (.int .i64 n)) (some (.int .i64 ((n : Int) + 1))) none = some (.sl 0 n 1 1) := by
    intro Q hq
    have : ¬ n + 1 ≤ n := by omega
    have h11 : n + 1 ≤ Q.length := by omega
    simp [sliceV, boundV, h6, h7, sliceBeyond, this, h11]
  have hb1 := hbey (flatE (intE .i64) (K.eraseIdx i ++ y :: List.replicate z 0)) (by simp [hEl]; omega)
  have hset : List.take n (flatE (intE .i64) (K.eraseIdx i ++ y :: List.replicate z 0)) ++ V.int .i64 0 :: List.drop (n + 1) (flatE (intE .i64) (K.eraseIdx i ++ y :: List.replicate z 0)) = flatE (intE .i64) (K.eraseIdx i ++ List.replicate (z + 1) 0) := by
    have := set_flatE1 (intE .i64) rfl (K.eraseIdx i ++ y :: List.replicate z 0) n 0 (by simp [hEl])
    rw [List.set_append_right _ _ (by omega), hEl, Nat.sub_self, List.set_cons_zero] at this
    rw [List.replicate_succ]
    simpa using this
  have hQl : (flatE (intE .i64) (K.eraseIdx i ++ y :: List.replicate z 0)).length = n + 1 + z := by simp [hEl]; omega
  generalize hQQ : flatE (intE .i64) (K.eraseIdx i ++ y :: List.replicate z 0) = Q at *
  generalize hZZ : flatE (intE .i64) (K.eraseIdx i ++ List.replicate (z + 1) 0) = Z at *
  have hZr : refsL Z = [] := by rw [← hZZ]; exact refs_flatE _ _
  have hZs : ∀ hp hs hm, subL hp hs hm Z = Z := by intro hp hs hm; rw [← hZZ]; exact sub_flatE _ _
  have h11 : n + 1 ≤ Q.length := by omega
  simp -implicitDefEqProofs [hsl, h3, h4, h5, h8, h9, hPt, h10, h11, happ, hb1, hset, hZr, hZs]
end Go.Ev.Tryd

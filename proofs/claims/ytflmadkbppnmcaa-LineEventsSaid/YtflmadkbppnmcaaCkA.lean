/-
  THE CLOCK SEAT: slices.Insert at strings (own work).
-/
import Derived.Test.YtflmadkbppnmcaaCkC0
set_option linter.unusedSimpArgs false
set_option linter.unusedVariables false
set_option maxRecDepth 100000
set_option maxHeartbeats 1000000
namespace Go.Ev.Try
open Go Go.Ev Go.Proofs

theorem ins_end_grow (l : List ByteArray) (x : ByteArray) (hb : (l.length + 1) * 16 ≤ 140737488355328) {k : Nat} :
    evF Try.prog Γb (k + 1) 33 [.sl 0 0 l.length 1, .int .i64 l.length, .sl 1 0 1 1] [some (.cells (flatE strE l) true), some (.cells [.str x] true)] = some (.sl 2 0 (l.length + 1) 1, [some (.cells (flatE strE l) true), some (.cells [.str x] true), some (.cells (flatE strE l ++ [.str x]) false)]) := by
  have tl : List.take l.length (flatE strE l) = flatE strE l := by rw [List.take_of_length_le]; simp
  rw [b33 (fun _ _ => rfl) _ _ (by simp)]
  simp -implicitDefEqProofs [hb, tl]
theorem junkL_tail (q : Nat) : (junkL q).tail = junkL (q - 1) := by cases q <;> rfl
theorem ins_end_room (l : List ByteArray) (x : ByteArray) (q : Nat) (hJ : 1 ≤ q) (hb : (l.length + 1) * 16 ≤ 140737488355328) {k : Nat} :
    evF Try.prog Γb (k + 1) 33 [.sl 0 0 l.length 1, .int .i64 l.length, .sl 1 0 1 1] [some (.cells (flatE strE l ++ junkL q) true), some (.cells [.str x] true)] = some (.sl 0 0 (l.length + 1) 1, [some (.cells (flatE strE l ++ .str x :: junkL (q - 1)) true), some (.cells [.str x] true), none]) := by
  have hr : l.length + 1 ≤ l.length + q := by omega
  have hJ2 : 0 < q := by omega
  have hJ3 : q ≠ 0 := by omega
  have tl : List.take l.length (flatE strE l) = flatE strE l := by rw [List.take_of_length_le]; simp
  have dl : List.drop (l.length + 1) (flatE strE l) = [] := by rw [List.drop_of_length_le]; simp
  have dl2 : List.drop l.length (flatE strE l) = [] := by rw [List.drop_of_length_le]; simp
  have hap : appendS [some (.cells (flatE strE l ++ junkL q) true), some (.cells [.str x] true)] 1 16 (.sl 0 0 l.length 1) 1 [.str x] = some (.sl 0 0 (l.length + 1) 1, [some (.cells (flatE strE l ++ .str x :: junkL (q - 1)) true), some (.cells [.str x] true)]) := by
    rw [appendS_room rfl (by omega) (by simp; exact hJ)]
    simp [writeCells, List.take_append, List.drop_append, tl, dl, dl2, hJ, junkL_tail]
  rw [b33 (fun _ _ => rfl) _ _ (by simp)]
  simp -implicitDefEqProofs [hb, hap]
theorem ins_shift (A C : List ByteArray) (hC : 1 ≤ C.length) (x : ByteArray) (q : Nat) (hJ : 1 ≤ q) (hb : (A.length + C.length + 1) * 16 ≤ 140737488355328) {k : Nat} :
    evF Try.prog Γb (k + 2) 33 [.sl 0 0 (A.length + C.length) 1, .int .i64 A.length, .sl 1 0 1 1] [some (.cells (flatE strE A ++ (flatE strE C ++ junkL q)) true), some (.cells [.str x] true)] =
      some (.sl 0 0 (A.length + C.length + 1) 1, [some (.cells (flatE strE A ++ .str x :: (flatE strE C ++ junkL (q - 1))) true), some (.cells [.str x] true), none]) := by
  have hne : ¬ (A.length : Int) = (A.length : Int) + C.length := by omega
  have hc0 : ¬ C.length = 0 := by omega
  have hc1 : ¬ C = [] := fun h => by rw [h] at hC; simp at hC
  have hq : ¬ (A.length : Int) + C.length + (q : Int) < (A.length : Int) + C.length + 1 := by omega
  have hq1 : ¬ (q : Int) < 1 := by omega
  have hq3 : A.length + C.length + 1 ≤ A.length + (C.length + q) := by omega
  have hq4 : A.length + 1 + C.length ≤ A.length + (C.length + q) := by omega
  have hq' : ¬ (A.length : Int) + ((C.length : Int) + (q : Int)) < (A.length : Int) + C.length + 1 := by omega
  have hq2 : C.length + 1 ≤ C.length + q := by omega
  have e1 : addI .i64 ((A.length : Int) + C.length) 1 = (A.length : Int) + C.length + 1 := addI_i64 (by omega) (by omega)
  have e2 : addI .i64 (A.length : Int) 1 = (A.length : Int) + 1 := addI_i64 (by omega) (by omega)
  have hp : (0 : Int) ≤ (A.length : Int) + C.length + 1 := by omega
  have hp2 : (0 : Int) ≤ (A.length : Int) + 1 := by omega
  have hp3 : (0 : Int) ≤ (A.length : Int) + C.length := by omega
  have ht : ((A.length : Int) + (C.length : Int) + 1).toNat = A.length + C.length + 1 := by omega
  have hs1 : A.length + C.length + 1 - (A.length + 1) = C.length := by omega
  have hs2 : A.length + C.length + 1 - A.length = C.length + 1 := by omega
  have hs3 : A.length ≤ A.length + C.length + 1 := by omega
  have hs4 : A.length + 1 ≤ A.length + C.length + 1 := by omega
  have hnl : ¬ A.length + C.length + 1 ≤ A.length + C.length := by omega
  have horc : Γb.orc 51 [.sl 0 0 1 1, .sl 1 (A.length + 1) C.length 1] [some (.cells [.str x] true), some (.cells (flatE strE A ++ (flatE strE C ++ junkL q)) true)] = some (.bool false, [some (.cells [.str x] true), some (.cells (flatE strE A ++ (flatE strE C ++ junkL q)) true)]) := by
    simp [Γb, Γo, baseOrc, overlapsOrc]
    intro _ h; exact absurd h hc1
  have co := evF_orc (P := Try.prog) (k := k) horc
  have i2 : A.length + 1 + C.length ≤ A.length + C.length + 1 := by omega
  have i1 : A.length + 1 + C.length - A.length = C.length + 1 := by omega
  have dA2 : List.drop (A.length + 1 + C.length) (flatE strE A) = [] := by rw [List.drop_of_length_le]; simp; omega
  have tA : List.take A.length (flatE strE A) = flatE strE A := by rw [List.take_of_length_le]; simp
  have tA1 : List.take (A.length + 1) (flatE strE A) = flatE strE A := by rw [List.take_of_length_le]; simp
  have dA : List.drop A.length (flatE strE A) = [] := by rw [List.drop_of_length_le]; simp
  have dA1 : ∀ n, List.drop (A.length + n) (flatE strE A) = [] := fun n => by rw [List.drop_of_length_le]; simp
  have dC : List.drop C.length (flatE strE C) = [] := by rw [List.drop_of_length_le]; simp
  have tC : List.take C.length (flatE strE C) = flatE strE C := by rw [List.take_of_length_le]; simp
  have tC1 : List.take (C.length + 1) (flatE strE C) = flatE strE C := by rw [List.take_of_length_le]; simp
  have dC1 : List.drop (C.length + 1) (flatE strE C) = [] := by rw [List.drop_of_length_le]; simp
  have hsub : ∀ n, A.length + n - A.length = n := fun n => by omega
  rw [b33 (fun _ _ => rfl) _ _ (by simp)]
  simp -implicitDefEqProofs [hb, hJ, hC, hc0, hc1, hne, e1, e2, hq, hq1, hq2, hp, hp2, hp3, ht, hs1, hs2, hs3, hs4, hnl, co, List.take_append, List.drop_append, tA, tA1, dA, dA1, dA2, i1, dC, tC, tC1, dC1, junkL_tail, hsub, hq', hq3, hq4]
theorem ins_grow (A C : List ByteArray) (hC : 1 ≤ C.length) (x : ByteArray) (hb : (A.length + C.length + 1) * 16 ≤ 140737488355328) {k : Nat} :
    evF Try.prog Γb (k + 2) 33 [.sl 0 0 (A.length + C.length) 1, .int .i64 A.length, .sl 1 0 1 1] [some (.cells (flatE strE A ++ flatE strE C) true), some (.cells [.str x] true)] =
      some (.sl 2 0 (A.length + C.length + 1) 1, [some (.cells (flatE strE A ++ flatE strE C) true), some (.cells [.str x] true), some (.cells (flatE strE A ++ .str x :: flatE strE C) false)]) := by
  have hne : ¬ (A.length : Int) = (A.length : Int) + C.length := by omega
  have hc0 : ¬ C.length = 0 := by omega
  have hc1 : ¬ C = [] := fun h => by rw [h] at hC; simp at hC
  have hq : (A.length : Int) + C.length < (A.length : Int) + C.length + 1 := by omega
  have e1 : addI .i64 ((A.length : Int) + C.length) 1 = (A.length : Int) + C.length + 1 := addI_i64 (by omega) (by omega)
  have e2 : addI .i64 (A.length : Int) 1 = (A.length : Int) + 1 := addI_i64 (by omega) (by omega)
  have e3 : subI .i64 ((A.length : Int) + C.length + 1) (A.length : Int) = ((C.length + 1 : Nat) : Int) := by rw [subI_i64 (by omega) (by omega)]; omega
  have hp2 : (0 : Int) ≤ (A.length : Int) + 1 := by omega
  have hp4 : (0 : Int) ≤ (C.length : Int) + 1 := by omega
  have hp5 : ¬ (C.length : Int) + 1 < 0 := by omega
  have ht : ((C.length : Int) + 1).toNat = C.length + 1 := by omega
  have hs0 : A.length + (C.length + 1) = A.length + C.length + 1 := by omega
  have hs1 : A.length + C.length + 1 - (A.length + 1) = C.length := by omega
  have hs2 : A.length + C.length + 1 - A.length = C.length + 1 := by omega
  have hs3 : A.length ≤ A.length + C.length + 1 := by omega
  have hs4 : A.length + 1 ≤ A.length + C.length + 1 := by omega
  have hz : zerosV [V.str ByteArray.empty] (C.length + 1) = .str ByteArray.empty :: flatE strE (List.replicate C.length ByteArray.empty) := by
    have : ∀ n, zerosV [V.str ByteArray.empty] n = flatE strE (List.replicate n ByteArray.empty) := fun n => by
      induction n with
      | zero => rfl
      | succ n ih => simp only [zerosV, ih, List.replicate_succ, flatE_cons, strE_f]
    rw [this]; rfl
  have hz0 : zerosV [V.str ByteArray.empty] C.length = flatE strE (List.replicate C.length ByteArray.empty) := by
    simpa [zerosV] using hz
  have i2 : A.length + 1 + C.length ≤ A.length + C.length + 1 := by omega
  have i1 : A.length + 1 + C.length - A.length = C.length + 1 := by omega
  have dA2 : List.drop (A.length + 1 + C.length) (flatE strE A) = [] := by rw [List.drop_of_length_le]; simp; omega
  have tA : List.take A.length (flatE strE A) = flatE strE A := by rw [List.take_of_length_le]; simp
  have tA1 : List.take (A.length + 1) (flatE strE A) = flatE strE A := by rw [List.take_of_length_le]; simp
  have dA : List.drop A.length (flatE strE A) = [] := by rw [List.drop_of_length_le]; simp
  have dA1 : ∀ n, List.drop (A.length + n) (flatE strE A) = [] := fun n => by rw [List.drop_of_length_le]; simp
  have dC : List.drop C.length (flatE strE C) = [] := by rw [List.drop_of_length_le]; simp
  have tC : List.take C.length (flatE strE C) = flatE strE C := by rw [List.take_of_length_le]; simp
  have tC1 : List.take (C.length + 1) (flatE strE C) = flatE strE C := by rw [List.take_of_length_le]; simp
  have dC1 : List.drop (C.length + 1) (flatE strE C) = [] := by rw [List.drop_of_length_le]; simp
  have dZ : List.drop C.length (flatE strE (List.replicate C.length ByteArray.empty)) = [] := by rw [List.drop_of_length_le]; simp
  have hsub : ∀ n, A.length + n - A.length = n := fun n => by omega
  rw [b33 (fun _ _ => rfl) _ _ (by simp)]
  simp -implicitDefEqProofs [hb, hC, hc0, hc1, hne, e1, e2, hq, e3, hp2, hp4, hp5, ht, hs0, hs1, hs2, hs3, hs4, hz, hz0, List.take_append, List.drop_append, tA, tA1, dA, dA1, dA2, i1, dC, tC, dZ, i2, hsub]
/-- Insert's walk goes right whatever the room. -/
theorem ins_nil (x : ByteArray) {k : Nat} :
    evF Try.prog Γb (k + 1) 33 [.nils, .int .i64 0, .sl 0 0 1 1] [some (.cells [.str x] true)] = some (.sl 1 0 1 1, [some (.cells [.str x] true), some (.cells [.str x] false)]) := by
  rw [b33 (fun _ _ => rfl) _ _ (by simp)]
  simp -implicitDefEqProofs
theorem insWalk33 : InsWalk strE Try.prog Γb 33 16 9 := by
  refine ⟨fun x => ⟨1, 1, _, [], false, ins_nil x, by simp, by simp⟩, ?_⟩
  intro l x i q hi hb
  simp only [strE_k, Nat.mul_one, strE_f]
  rcases Nat.lt_or_ge i l.length with hlt | hge
  · obtain ⟨A, C, rfl, rfl, hC⟩ : ∃ A C, l = A ++ C ∧ i = A.length ∧ 1 ≤ C.length := ⟨l.take i, l.drop i, (List.take_append_drop _ _).symm, by simp; omega, by simp; omega⟩
    have e : insL (A ++ C) A.length x = A ++ x :: C := by simp [insL]
    rw [List.length_append] at hb
    have e2 : flatE strE (insL (A ++ C) A.length x) = flatE strE A ++ .str x :: flatE strE C := by rw [e]; simp
    rcases Nat.eq_zero_or_pos q with rfl | hq
    · refine ⟨2, 2, [some (.cells (flatE strE A ++ flatE strE C) true), some (.cells [.str x] true), some (.cells (flatE strE A ++ .str x :: flatE strE C) false)], [], false, ?_, ?_, by simp⟩
      · have := ins_grow A C hC x hb (k := 0)
        simpa [junkL] using this
      · rw [e2]; simp
    · refine ⟨2, 0, [some (.cells (flatE strE A ++ .str x :: (flatE strE C ++ junkL (q - 1))) true), some (.cells [.str x] true), none], junkL (q - 1), true, ?_, ?_, by simp⟩
      · have := ins_shift A C hC x q hq hb (k := 0)
        simpa using this
      · rw [e2]; simp
  · obtain rfl : i = l.length := by omega
    have e : insL l l.length x = l ++ [x] := by simp [insL]
    have e2 : flatE strE (insL l l.length x) = flatE strE l ++ [.str x] := by rw [e]; simp
    rcases Nat.eq_zero_or_pos q with rfl | hq
    · refine ⟨1, 2, [some (.cells (flatE strE l) true), some (.cells [.str x] true), some (.cells (flatE strE l ++ [.str x]) false)], [], false, ?_, ?_, by simp⟩
      · have := ins_end_grow l x hb (k := 0)
        simpa [junkL] using this
      · rw [e2]; simp
    · refine ⟨1, 0, [some (.cells (flatE strE l ++ .str x :: junkL (q - 1)) true), some (.cells [.str x] true), none], junkL (q - 1), true, ?_, ?_, by simp⟩
      · have := ins_end_room l x q hq hb (k := 0)
        simpa using this
      · rw [e2]; simp
end Go.Ev.Try

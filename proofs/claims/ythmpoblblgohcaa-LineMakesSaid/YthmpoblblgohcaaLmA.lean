/-
  THE LINE SEAT: slices.Insert at marks (own work).
-/
import Derived.Test.YthmpoblblgohcaaLineC
import Derived.Test.YthmpoblblgohcaaLmC0
set_option linter.unusedSimpArgs false
set_option linter.unusedVariables false
set_option maxRecDepth 100000
set_option maxHeartbeats 4000000
namespace Go.Ev.Try
open Go Go.Ev Go.Proofs

theorem tkM (l : List Mark) : List.take (l.length * 3) (flatE markE l) = flatE markE l := by rw [List.take_of_length_le]; simp
theorem dpM (l : List Mark) : List.drop (l.length * 3) (flatE markE l) = [] := by rw [List.drop_of_length_le]; simp
theorem dpM1 (l : List Mark) (n : Nat) : List.drop (l.length * 3 + n) (flatE markE l) = [] := by rw [List.drop_of_length_le]; simp
theorem tkM1 (l : List Mark) (n : Nat) : List.take (l.length * 3 + n) (flatE markE l) = flatE markE l := by rw [List.take_of_length_le]; simp
theorem junkL_drop (q n : Nat) : List.drop n (junkL q) = junkL (q - n) := by simp [junkL]
theorem ins_end_grow (l : List Mark) (x : Mark) (hb : (l.length + 1) * 24 ≤ 140737488355328) {k : Nat} :
    evF Try.prog Γb (k + 1) 43 [.sl 0 0 l.length 3, .int .i64 l.length, .sl 1 0 1 3] [some (.cells (flatE markE l) true), some (.cells (markE.f x) true)] = some (.sl 2 0 (l.length + 1) 3, [some (.cells (flatE markE l) true), some (.cells (markE.f x) true), some (.cells (flatE markE l ++ markE.f x) false)]) := by
  have tl := tkM l
  rw [b43 (fun _ _ => rfl) _ _ (by simp)]
  simp -implicitDefEqProofs [hb, tl, markE_f]
theorem ins_end_room (l : List Mark) (x : Mark) (q : Nat) (hJ : 1 ≤ q) (hb : (l.length + 1) * 24 ≤ 140737488355328) {k : Nat} :
    evF Try.prog Γb (k + 1) 43 [.sl 0 0 l.length 3, .int .i64 l.length, .sl 1 0 1 3] [some (.cells (flatE markE l ++ junkL (q * 3)) true), some (.cells (markE.f x) true)] = some (.sl 0 0 (l.length + 1) 3, [some (.cells (flatE markE l ++ (markE.f x ++ junkL (q * 3 - 3))) true), some (.cells (markE.f x) true), none]) := by
  have tl := tkM l
  have hap : appendS [some (.cells (flatE markE l ++ junkL (q * 3)) true), some (.cells (markE.f x) true)] 3 24 (.sl 0 0 l.length 3) 1 (markE.f x) = some (.sl 0 0 (l.length + 1) 3, [some (.cells (flatE markE l ++ (markE.f x ++ junkL (q * 3 - 3))) true), some (.cells (markE.f x) true)]) := by
    rw [appendS_room rfl (by omega) (by simp; omega)]
    have h0 : List.drop (l.length * 3 + 3) (flatE markE l) = [] := dpM1 l 3
    have h1 : l.length * 3 + 3 ≤ l.length * 3 + q * 3 := by omega
    have h2 : l.length * 3 + 3 - l.length * 3 = 3 := by omega
    simp [writeCells, List.take_append, List.drop_append, tl, h0, h1, h2, junkL_drop, markE_f]
  rw [b43 (fun _ _ => rfl) _ _ (by simp)]
  simp -implicitDefEqProofs [hb, hap, markE_f] at hap ⊢
  simp -implicitDefEqProofs [hb, hap]
theorem ins_shift (A C : List Mark) (hC : 1 ≤ C.length) (x : Mark) (q : Nat) (hJ : 1 ≤ q) (hb : (A.length + C.length + 1) * 24 ≤ 140737488355328) {k : Nat} :
    evF Try.prog Γb (k + 2) 43 [.sl 0 0 (A.length + C.length) 3, .int .i64 A.length, .sl 1 0 1 3] [some (.cells (flatE markE A ++ (flatE markE C ++ junkL (q * 3))) true), some (.cells (markE.f x) true)] =
      some (.sl 0 0 (A.length + C.length + 1) 3, [some (.cells (flatE markE A ++ (markE.f x ++ (flatE markE C ++ junkL (q * 3 - 3)))) true), some (.cells (markE.f x) true), none]) := by
  have hne : ¬ (A.length : Int) = (A.length : Int) + C.length := by omega
  have hc0 : ¬ C.length = 0 := by omega
  have hc1 : ¬ C = [] := fun h => by rw [h] at hC; simp at hC
  have hq : ¬ (A.length : Int) + C.length + (q : Int) < (A.length : Int) + C.length + 1 := by omega
  have hq1 : ¬ (q : Int) < 1 := by omega
  have hq3 : A.length + C.length + 1 ≤ A.length + (C.length + q) := by omega
  have hq4 : A.length + 1 + C.length ≤ A.length + (C.length + q) := by omega
  have hq' : ¬ (A.length : Int) + ((C.length : Int) + (q : Int)) < (A.length : Int) + C.length + 1 := by omega
  have hq2 : C.length + 1 ≤ C.length + q := by omega
  have e1 : addI .i64 ((A.length : Int) + C.length) 1 = (A.length : Int) + C.length + 1 := addI_i64 (by omega) (by omega)
  have e2 : addI .i64 (A.length : Int) 1 = (A.length : Int) + 1 := addI_i64 (by omega) (by omega)
  have hp : (0 : Int) ≤ (A.length : Int) + C.length + 1 := by omega
  have hp2 : (0 : Int) ≤ (A.length : Int) + 1 := by omega
  have hp3 : (0 : Int) ≤ (A.length : Int) + C.length := by omega
  have ht : ((A.length : Int) + (C.length : Int) + 1).toNat = A.length + C.length + 1 := by omega
  have hs1 : A.length + C.length + 1 - (A.length + 1) = C.length := by omega
  have hs2 : A.length + C.length + 1 - A.length = C.length + 1 := by omega
  have hs3 : A.length ≤ A.length + C.length + 1 := by omega
  have hs4 : A.length + 1 ≤ A.length + C.length + 1 := by omega
  have hnl : ¬ A.length + C.length + 1 ≤ A.length + C.length := by omega
  have horc : Γb.orc 53 [.sl 0 0 1 3, .sl 1 ((A.length + 1) * 3) C.length 3] [some (.cells (markE.f x) true), some (.cells (flatE markE A ++ (flatE markE C ++ junkL (q * 3))) true)] = some (.bool false, [some (.cells (markE.f x) true), some (.cells (flatE markE A ++ (flatE markE C ++ junkL (q * 3))) true)]) := by
    simp [Γb, Γo, baseOrc, overlapsOrc]
    omega
  have co := evF_orc (P := Try.prog) (k := k) horc
  have i2 : A.length + 1 + C.length ≤ A.length + C.length + 1 := by omega
  have i1 : (A.length + 1 + C.length) * 3 - A.length * 3 = C.length * 3 + 3 := by omega
  have tA := tkM A
  have dA := dpM A
  have dA1 := dpM1 A
  have v1 : ((A.length : Int) * 3 + ((C.length : Int) * 3 + (q : Int) * 3)) / 3 = (A.length : Int) + C.length + q := by omega
  have v2 : (A.length * 3 + (C.length * 3 + q * 3)) / 3 = A.length + C.length + q := by omega
  have v3 : A.length + C.length + 1 ≤ A.length + C.length + q := by omega
  have v4 : A.length + 1 + C.length ≤ A.length + C.length + q := by omega
  have hsb : sliceBeyond [some (.cells (flatE markE A ++ (flatE markE C ++ junkL (q * 3))) true), some (.cells (markE.f x) true)] 0 0 0 (A.length + C.length + 1) 3 3 = some (.sl 0 0 (A.length + C.length + 1) 3) := by
    rw [sliceBeyond_in (cs := flatE markE A ++ (flatE markE C ++ junkL (q * 3))) rfl (by omega) (by omega) (by simp; omega)]
    simp
  have a1 : (A.length + 1) * 3 - A.length * 3 = 3 := by omega
  have a2 : (A.length + 1) * 3 + C.length * 3 - A.length * 3 = C.length * 3 + 3 := by omega
  have a3 : (A.length + 1) * 3 + C.length * 3 ≤ A.length * 3 + (C.length * 3 + q * 3) := by omega
  have a4 : List.drop ((A.length + 1) * 3 + C.length * 3) (flatE markE A) = [] := by rw [List.drop_of_length_le]; simp; omega
  have a5 : List.take 3 (markE.f x) = markE.f x := List.take_of_length_le (by simp)
  have a6 : C.length * 3 + 3 - C.length * 3 = 3 := by omega
  have a8 : (C.length + 1) * 3 ≤ C.length * 3 + q * 3 := by omega
  have a9 : List.take ((C.length + 1) * 3) (flatE markE C) = flatE markE C := by rw [List.take_of_length_le]; simp; omega
  have a10 : min ((C.length + 1) * 3 - C.length * 3) (q * 3) = 3 := by omega
  have a11 : min (C.length + 1) C.length = C.length := by omega
  have a12 : min (C.length * 3) (C.length * 3 + 3) = C.length * 3 := by omega
  have a13 : 3 - C.length * 3 = 0 := by omega
  have a14 : min 3 (C.length * 3) = 3 := by omega
  have a7 : List.drop (C.length * 3 + 3) (markE.f x) = [] := List.drop_of_length_le (by simp)
  have dA2 : List.drop ((A.length + 1 + C.length) * 3) (flatE markE A) = [] := by rw [List.drop_of_length_le]; simp; omega
  have tA2 : List.take ((A.length + 1) * 3) (flatE markE A) = flatE markE A := by rw [List.take_of_length_le]; simp; omega
  have tC := tkM C
  have dC := dpM C
  have dC1 := dpM1 C
  have tC1 := tkM1 C
  rw [b43 (fun _ _ => rfl) _ _ (by simp)]
  simp -implicitDefEqProofs [hb, hJ, hC, hc0, hc1, hne, e1, e2, hq, hq1, hq2, hp, hp2, hp3, ht, hs1, hs2, hs3, hs4, hnl, co, List.take_append, List.drop_append, tA, tA2, dA, dA1, dA2, i1, dC, tC, tC1, dC1, junkL_drop, hq', hq3, hq4, v1, v2, v3, v4, hsb, a1, a2, a3, a4, a5, a6, a7, a8, a9, a10, a11, a12, a13, a14]
theorem ins_grow (A C : List Mark) (hC : 1 ≤ C.length) (x : Mark) (hb : (A.length + C.length + 1) * 24 ≤ 140737488355328) {k : Nat} :
    evF Try.prog Γb (k + 2) 43 [.sl 0 0 (A.length + C.length) 3, .int .i64 A.length, .sl 1 0 1 3] [some (.cells (flatE markE A ++ flatE markE C) true), some (.cells (markE.f x) true)] =
      some (.sl 2 0 (A.length + C.length + 1) 3, [some (.cells (flatE markE A ++ flatE markE C) true), some (.cells (markE.f x) true), some (.cells (flatE markE A ++ (markE.f x ++ flatE markE C)) false)]) := by
  have hne : ¬ (A.length : Int) = (A.length : Int) + C.length := by omega
  have hc0 : ¬ C.length = 0 := by omega
  have hc1 : ¬ C = [] := fun h => by rw [h] at hC; simp at hC
  have hq : (A.length : Int) + C.length < (A.length : Int) + C.length + 1 := by omega
  have e1 : addI .i64 ((A.length : Int) + C.length) 1 = (A.length : Int) + C.length + 1 := addI_i64 (by omega) (by omega)
  have e2 : addI .i64 (A.length : Int) 1 = (A.length : Int) + 1 := addI_i64 (by omega) (by omega)
  have e3 : subI .i64 ((A.length : Int) + C.length + 1) (A.length : Int) = ((C.length + 1 : Nat) : Int) := by rw [subI_i64 (by omega) (by omega)]; omega
  have hp2 : (0 : Int) ≤ (A.length : Int) + 1 := by omega
  have hp4 : (0 : Int) ≤ (C.length : Int) + 1 := by omega
  have hp5 : ¬ (C.length : Int) + 1 < 0 := by omega
  have ht : ((C.length : Int) + 1).toNat = C.length + 1 := by omega
  have hs0 : A.length + (C.length + 1) = A.length + C.length + 1 := by omega
  have hs1 : A.length + C.length + 1 - (A.length + 1) = C.length := by omega
  have hs2 : A.length + C.length + 1 - A.length = C.length + 1 := by omega
  have hs3 : A.length ≤ A.length + C.length + 1 := by omega
  have hs4 : A.length + 1 ≤ A.length + C.length + 1 := by omega
  have hz : zerosV [V.int .i64 0, .int .i64 0, .int .i64 0] (C.length + 1) = .int .i64 0 :: .int .i64 0 :: .int .i64 0 :: flatE markE (List.replicate C.length mark0) := by
    rw [zeros_marks]; rfl
  have hz0 := zeros_marks C.length
  have i2 : A.length + 1 + C.length ≤ A.length + C.length + 1 := by omega
  have i1 : (A.length + 1 + C.length) * 3 - A.length * 3 = C.length * 3 + 3 := by omega
  have tA := tkM A
  have dA := dpM A
  have dA1 := dpM1 A
  have v1 : ((A.length : Int) * 3 + (C.length : Int) * 3) / 3 = (A.length : Int) + C.length := by omega
  have v2 : (A.length * 3 + C.length * 3) / 3 = A.length + C.length := by omega
  have a1 : (A.length + 1) * 3 - A.length * 3 = 3 := by omega
  have a2 : (A.length + 1) * 3 + C.length * 3 - A.length * 3 = C.length * 3 + 3 := by omega
  have a3 : (A.length + 1) * 3 + C.length * 3 ≤ A.length * 3 + (3 + C.length * 3) := by omega
  have a4 : List.drop ((A.length + 1) * 3 + C.length * 3) (flatE markE A) = [] := by rw [List.drop_of_length_le]; simp; omega
  have a5 : List.take 3 (markE.f x) = markE.f x := List.take_of_length_le (by simp)
  have a6 : A.length * 3 + C.length * 3 < (A.length + C.length + 1) * 3 := by omega
  have a7 : List.drop (C.length * 3 + 3) (markE.f x) = [] := List.drop_of_length_le (by simp)
  have dA2 : List.drop ((A.length + 1 + C.length) * 3) (flatE markE A) = [] := by rw [List.drop_of_length_le]; simp; omega
  have tA2 : List.take ((A.length + 1) * 3) (flatE markE A) = flatE markE A := by rw [List.take_of_length_le]; simp; omega
  have tC := tkM C
  have dZ : List.drop (C.length * 3) (flatE markE (List.replicate C.length mark0)) = [] := by rw [List.drop_of_length_le]; simp
  rw [b43 (fun _ _ => rfl) _ _ (by simp)]
  simp -implicitDefEqProofs [hb, hC, hc0, hc1, hne, e1, e2, hq, e3, hp2, hp4, hp5, ht, hs0, hs1, hs2, hs3, hs4, hz, hz0, List.take_append, List.drop_append, tA, tA2, dA, dA1, dA2, i1, dZ, tC, i2, v1, v2, a1, a2, a3, a4, a5, a6, a7]
theorem ins_nil (x : Mark) {k : Nat} :
    evF Try.prog Γb (k + 1) 43 [.nils, .int .i64 0, .sl 0 0 1 3] [some (.cells (markE.f x) true)] = some (.sl 1 0 1 3, [some (.cells (markE.f x) true), some (.cells (markE.f x) false)]) := by
  rw [b43 (fun _ _ => rfl) _ _ (by simp)]
  simp -implicitDefEqProofs [markE_f]
/-- Insert's walk goes right whatever the room. -/
theorem insWalk43 : InsWalk markE Try.prog Γb 43 24 9 := by
  refine ⟨fun x => ⟨1, 1, _, [], false, ins_nil x, by simp, by simp⟩, ?_⟩
  intro l x i q hi hb
  simp only [markE_k]
  rcases Nat.lt_or_ge i l.length with hlt | hge
  · obtain ⟨A, C, rfl, rfl, hC⟩ : ∃ A C, l = A ++ C ∧ i = A.length ∧ 1 ≤ C.length := ⟨l.take i, l.drop i, (List.take_append_drop _ _).symm, by simp; omega, by simp; omega⟩
    have e : insL (A ++ C) A.length x = A ++ x :: C := by simp [insL]
    rw [List.length_append] at hb
    have e2 : flatE markE (insL (A ++ C) A.length x) = flatE markE A ++ (markE.f x ++ flatE markE C) := by rw [e]; simp [markE_f]
    rcases Nat.eq_zero_or_pos q with rfl | hq
    · refine ⟨2, 2, [some (.cells (flatE markE A ++ flatE markE C) true), some (.cells (markE.f x) true), some (.cells (flatE markE A ++ (markE.f x ++ flatE markE C)) false)], [], false, ?_, ?_, by simp⟩
      · have := ins_grow A C hC x hb (k := 0)
        simpa [junkL, flatE_append] using this
      · rw [e2]; simp
    · refine ⟨2, 0, [some (.cells (flatE markE A ++ (markE.f x ++ (flatE markE C ++ junkL (q * 3 - 3)))) true), some (.cells (markE.f x) true), none], junkL (q * 3 - 3), true, ?_, ?_, by simp⟩
      · have := ins_shift A C hC x q hq hb (k := 0)
        simpa [flatE_append] using this
      · rw [e2]; simp
  · obtain rfl : i = l.length := by omega
    have e : insL l l.length x = l ++ [x] := by simp [insL]
    have e2 : flatE markE (insL l l.length x) = flatE markE l ++ markE.f x := by rw [e]; simp [flatE_append, markE_f]
    rcases Nat.eq_zero_or_pos q with rfl | hq
    · refine ⟨1, 2, [some (.cells (flatE markE l) true), some (.cells (markE.f x) true), some (.cells (flatE markE l ++ markE.f x) false)], [], false, ?_, ?_, by simp⟩
      · have := ins_end_grow l x hb (k := 0)
        simpa [junkL] using this
      · rw [e2]; simp
    · refine ⟨1, 0, [some (.cells (flatE markE l ++ (markE.f x ++ junkL (q * 3 - 3))) true), some (.cells (markE.f x) true), none], junkL (q * 3 - 3), true, ?_, ?_, by simp⟩
      · have := ins_end_room l x q hq hb (k := 0)
        simpa using this
      · rw [e2]; simp
end Go.Ev.Try

/-
  THE CLOCK SEAT: the law ClockSolves returns true at all arguments (own work).
-/
import Derived.Test.YtflmadkbppnmcaaCkBd
import Derived.Test.YtflmadkbppnmcaaCkBf
import Derived.Test.YtflmadkbppnmcaaCkI
set_option linter.unusedSimpArgs false
set_option linter.unusedVariables false
set_option maxRecDepth 100000
set_option maxHeartbeats 4000000
namespace Go.Ev.Try
open Go Go.Ev Go.Proofs

theorem ivs_add (d : Mat) (a b c : Nat) : ivs d a (b + c) = ivs d a b ++ ivs d (a + b) c := by
  unfold ivs
  rw [List.range_add, List.map_append, List.map_map]
  congr 1
  refine List.map_congr_left fun i _ => ?_
  simp [Function.comp, Nat.add_assoc]
theorem add00 : addI .i64 0 0 = 0 := by rw [addI_i64 (by omega) (by omega)]; rfl
theorem drop_pairs (l : List (Int × Int)) (i : Nat) (h : i < l.length) : ∃ R, List.drop (i * 2) (flatE pairE l) = .int .i64 l[i].1 :: R := by
  have := at_pairs l i h
  cases hd : List.drop (i * 2) (flatE pairE l) with
  | nil => rw [hd] at this; cases this
  | cons v R =>
    rw [hd] at this
    simp at this
    exact ⟨R, by rw [this.1]⟩
theorem drop_ints (l : List Int) (i : Nat) (h : i < l.length) : ∃ R, List.drop i (flatE (intE .i64) l) = .int .i64 l[i] :: R := by
  have := at_flatE1 (intE .i64) rfl l i h
  cases hd : List.drop i (flatE (intE .i64) l) with
  | nil => rw [hd] at this; cases this
  | cons v R =>
    rw [hd] at this
    simp at this
    exact ⟨R, by rw [this]⟩
theorem fsts_append (a b : List (Int × Int)) : fsts (a ++ b) = fsts a ++ fsts b := List.map_append
theorem solves_ok (l : List Event) (ties : List Tie) (z z2 : Bool) (N : Nat) (hN : N ≤ 9223372036854775000) (hz : ∀ x ∈ l, x.clock.size ≤ N) (hl : l.length ≤ 8796093022206) (ht : ties.length ≤ 8796093022206) {k : Nat} (hk : N + l.length + 1000 < k) :
    evF Try.prog Γ (k + 1) 5 [roV z l.length (flatE eventE l), roV z2 ties.length (flatE tieE ties)] [] = some (.bool true, []) := by
  obtain ⟨k, rfl⟩ : ∃ j, k = j + 1 := ⟨k - 1, by omega⟩
  have c0 := timed_ok (k := k) (by omega)
  have c1 := solve_ok l ties z z2 hl ht (k := k) (by omega)
  have c2 := errors_ok l ties z z2 hl ht (k := k) (by omega)
  have c3 := one_ok l ties z z2 hl ht (k := k) (by omega)
  have c4 := fault_ok l ties z z2 N hN hz hl ht (k := k) (by omega)
  rw [b5 (fun _ _ => rfl) _ _ (by simp)]
  by_cases hf : faultC l ties = 0
  · have hr := right_of hf
    have hn := nV_le hr
    have c5 := ranges_ok l ties z z2 hr (k := k) (by omega)
    have c6 := clocksOf_ok l z hl (k := k) (by omega)
    rw [hf] at c4
    unfold answer at c1 c2 c3
    rw [if_pos hf] at c1 c2 c3
    rw [if_pos hf] at c3
    unfold rangesV at c5
    cases hc : closed (nV l) (bds l ties) with
    | none =>
      rw [hc] at c1 c2 c3 c5
      simp only [ansV, oneV, fsts, List.map_nil, List.length_nil, flatE_nil] at c1 c2 c3 c5
      simp at c1 c2 c3 c5
      simp -implicitDefEqProofs [c0, c1, c2, c3, c4, c5, add00]
    | some d =>
      rw [hc] at c1 c2 c3 c5
      simp only [ansV, oneV] at c1 c2 c3 c5
      by_cases hne : l = []
      · subst hne
        have h1 : nC [] = 0 := rfl
        have h2 : nV [] = 1 := rfl
        simp only [h1, h2, List.length_nil, ivs_zero, fsts, List.map_nil] at c1 c2 c3 c5
        have h3 : insF (clks []) = [] := rfl
        rw [h3] at c6
        have q1 := equal_pairs [] [] true true (by simp) (k := k) (by simp; omega)
        have q2 := concat_ints [(true, []), (true, [])] (by simp) (by simp [catL]) (k := k) (by omega)
        simp [lv, catL] at c1 c2 c3 c4 c5 c6 q1 q2
        simp -implicitDefEqProofs [c0, c1, c2, c3, c4, c5, c6, q1, q2]
        generalize hx : evLoopC _ _ _ _ _ _ _ _ _ _ = R
        apply loop_gen hx (fun _ : Nat => (mkL 129 .junk [(13, .nils), (114, .nils), (115, .int .i64 0), (116, .int .i64 0)], [none, none])) (fun _ => True) (fun _ => 0) 0
        case hI => trivial
        case hq => omega
        case ht => simp -implicitDefEqProofs [liveOf]
        case round =>
          rintro j _ _
          clear hx
          simp -implicitDefEqProofs
      · have hcp := nC_pos hne
        have hlp : 0 < l.length := List.length_pos_iff.2 hne
        have hnn : nV l - 1 = nC l + l.length := by unfold nV; omega
        have hall := ivs_add d 1 (nC l) l.length
        have hcl : (insF (clks l)).length = nC l := rfl
        rw [hnn, hall] at c5
        rw [hcl] at c6
        have hE : (ivs d 1 (nC l)).length = nC l := by simp
        have hT : (ivs d (1 + nC l) l.length).length = l.length := by simp
        unfold nV at hn
        generalize ivs d 1 (nC l) = E at *
        generalize ivs d (1 + nC l) l.length = T at *
        obtain ⟨a, ha⟩ : ∃ q, nC l = q + 1 := ⟨nC l - 1, by omega⟩
        obtain ⟨b, hb⟩ : ∃ q, l.length = q + 1 := ⟨l.length - 1, by omega⟩
        have hq : nC l + l.length = a + b + 1 + 1 := by omega
        rw [hq] at c5
        rw [ha] at c6 hE hn
        rw [hb] at hT hn
        have q1 := equal_pairs E E false false (by omega) (k := k) (by omega)
        have q2 := equal_pairs T T false false (by omega) (k := k) (by omega)
        have q3 := concat_ints [(false, fsts E), (false, fsts T)] (by simp) (by simp [catL]; omega) (k := k) (by omega)
        have hcat : catL [(false, fsts E), (false, fsts T)] = fsts (E ++ T) := by simp [catL, fsts_append]
        rw [hcat] at q3
        have hab : a + 1 + (b + 1) = a + b + 1 + 1 := by omega
        simp [lv, hE, hT, hab] at c1 c2 c3 c5 c6 q1 q2 q3
        have p0 : (0 : Int) ≤ (a : Int) + 1 := by omega
        have p1 : a + 1 ≤ a + b + 1 + 1 := by omega
        have p2 : a + b + 1 + 1 - (a + 1) = b + 1 := by omega
        have p3 : ((a : Int) + 1).toNat = a + 1 := by omega
        have lE : (flatE pairE E).length = (a + 1) * 2 := by simp [hE]
        have lT : (flatE pairE T).length = (b + 1) * 2 := by simp [hT]
        have t1 : List.take ((a + 1) * 2) (flatE pairE E) = flatE pairE E := List.take_of_length_le (by omega)
        have t2 : List.take ((b + 1) * 2) (flatE pairE T) = flatE pairE T := List.take_of_length_le (by omega)
        have t3 : List.take ((a + 1) * 2) (flatE pairE E ++ flatE pairE T) = flatE pairE E := by rw [List.take_append_of_le_length (by omega), t1]
        have t4 : List.drop ((a + 1) * 2) (flatE pairE E ++ flatE pairE T) = flatE pairE T := by rw [List.drop_append, List.drop_of_length_le (by omega), lE]; simp
        have t5 : List.take (a + 1) (flatE (intE .i64) (fsts E)) = flatE (intE .i64) (fsts E) := List.take_of_length_le (by simp [hE])
        have t6 : List.take (b + 1) (flatE (intE .i64) (fsts T)) = flatE (intE .i64) (fsts T) := List.take_of_length_le (by simp [hT])
        have hbi : (l.length : Int) = (b : Int) + 1 := by omega
        simp -implicitDefEqProofs [c0, c1, c2, c3, c4, c5, c6, q1, q2, q3, hE, hT, hbi, p0, p1, p2, p3, t1, t2, t3, t4, t5, t6]
        have hAl : (E ++ T).length = a + b + 1 + 1 := by rw [List.length_append]; omega
        rw [← flatE_append]
        generalize E ++ T = A at *
        generalize hx : evLoopC _ _ _ _ _ _ _ _ _ _ = R
        apply loop_gen hx (fun i : Nat => (mkL 129 .junk [(13, .sl 0 0 (a + b + 1 + 1) 2), (114, .sl 1 0 (a + b + 1 + 1) 1), (115, .int .i64 ((a : Int) + b + 1 + 1)), (116, .int .i64 i)], [some (.cells (flatE pairE A) false), some (.cells (flatE (intE .i64) (fsts A)) false)]))
          (fun i => i ≤ a + b + 1 + 1) (fun i => a + b + 1 + 1 - i) 0
        case hI => exact Nat.zero_le _
        case hq => omega
        case ht => simp -implicitDefEqProofs [liveOf]
        case round =>
          rintro i hi _
          clear hx
          have hi : i ≤ a + b + 1 + 1 := hi
          by_cases hlt : i < a + b + 1 + 1
          · have hlt2 : (i : Int) < (a : Int) + b + 1 + 1 := by omega
            obtain ⟨R1, m1⟩ := drop_pairs A i (by omega)
            obtain ⟨R2, m2⟩ := drop_ints (fsts A) i (by simp; omega)
            have hfst : (fsts A)[i]'(by simp; omega) = (A[i]'(by omega)).1 := by simp [fsts]
            rw [hfst] at m2
            have e2 : addI .i64 (i : Int) 1 = (i : Int) + 1 := addI_i64 (by omega) (by omega)
            simp -implicitDefEqProofs [hlt, hlt2, m1, m2, e2]
            exact rnd_next (i + 1) hlt (by omega) (by simp -implicitDefEqProofs [liveOf])
          · obtain rfl : i = a + b + 1 + 1 := by omega
            have hlt2 : ¬ ((a : Int) + b + 1 + 1 < (a : Int) + b + 1 + 1) := by omega
            simp -implicitDefEqProofs [hlt2]
  · unfold answer at c1 c2 c3
    rw [if_neg hf] at c1 c2 c3
    rw [if_neg hf] at c3
    simp only [ansV, oneV, fsts, List.map_nil, List.length_nil, flatE_nil] at c1 c2 c3
    simp at c1 c2 c3
    simp -implicitDefEqProofs [c0, c1, c2, c3, c4, hf, add00]
end Go.Ev.Try

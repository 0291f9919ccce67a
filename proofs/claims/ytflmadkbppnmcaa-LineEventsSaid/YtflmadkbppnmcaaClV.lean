/-
  THE CLOCK SEAT: the law LineEvents, its walk (own work).
-/
import Derived.Test.YtflmadkbppnmcaaClU
import Derived.Test.YtflmadkbppnmcaaCkBg
set_option linter.unusedSimpArgs false
set_option linter.unusedVariables false
set_option maxRecDepth 100000
set_option maxHeartbeats 4000000
namespace Go.Ev.Try.Ln
open Go Go.Ev Go.Proofs

theorem lined29_ok {k : Nat} (hk : 2030 < k) : evF Try.prog Γ (k + 1) 29 [] [] = some (.bool true, []) := by
  obtain ⟨k, rfl⟩ : ∃ j, k = j + 1 := ⟨k - 1, by omega⟩
  have hi : lineM [⟨2, 5, 6⟩, ⟨1, 1, 2⟩] = [⟨1, 1, 2⟩, ⟨2, 5, 6⟩] := by decide
  have c := of_some [⟨2, 5, 6⟩, ⟨1, 1, 2⟩] false (by decide) (k := k) (by simp only [List.length_cons, List.length_nil]; omega) (by decide) 0 (by rw [hi]; decide)
  rw [hi] at c
  simp [markE_f] at c
  rw [b29 (fun _ _ => rfl) _ _ (by simp)]
  simp -implicitDefEqProofs [c]

/-- Events of all events and ties. -/
theorem events_ok (l : List Event) (ties : List Tie) (z z2 : Bool) (hl : l.length ≤ 8796093022206) (ht : ties.length ≤ 8796093022206) {k : Nat} (hk : l.length + 2600 < k) :
    (answer l ties (fun d => ivs d (1 + nC l) l.length)).2 ≠ 0 → evF Try.prog Γ (k + 1) 27 [roV z l.length (flatE eventE l), roV z2 ties.length (flatE tieE ties)] [] = some (.tup [.nils, .int .i64 (answer l ties (fun d => ivs d (1 + nC l) l.length)).2], [none]) := fun h0 => by
  obtain ⟨k, rfl⟩ : ∃ j, k = j + 1 := ⟨k - 1, by omega⟩
  have c := solve_ok l ties z z2 hl ht (k := k) (by omega)
  have hn : (answer l ties (fun d => ivs d (1 + nC l) l.length)).1 = [] := by
    unfold answer at h0 ⊢
    split
    · split
      · rename_i h1 _ d h2
        rw [if_pos h1, h2] at h0
        exact absurd rfl h0
      · rfl
    · rfl
  unfold ansV at c
  rw [hn] at c
  exact events_none l ties z z2 _ h0 (by simpa using c)

theorem lineEvents_ok (l : List Event) (ties : List Tie) (z z2 : Bool) (N : Nat) (hN : N ≤ 9223372036854775000) (hz : ∀ x ∈ l, x.clock.size ≤ N) (hl : l.length ≤ 8796093022206) (ht : ties.length ≤ 8796093022206) {k : Nat} (hk : N + l.length + 6000 < k) :
    evF Try.prog Γ (k + 1) 7 [roV z l.length (flatE eventE l), roV z2 ties.length (flatE tieE ties)] [] = some (.bool true, []) := by
  obtain ⟨k, rfl⟩ : ∃ j, k = j + 1 := ⟨k - 1, by omega⟩
  have c0 := timed_ok (k := k) (by omega)
  have c1 := lined29_ok (k := k) (by omega)
  have c2 := events_ok l ties z z2 hl ht (k := k) (by omega)
  have c4 := fault_ok l ties z z2 N hN hz hl ht (k := k) (by omega)
  have q0 := equal_ok [] [] true true (by decide) (k := k) (by simp only [List.length_nil]; omega)
  simp at q0
  rw [b7 (fun _ _ => rfl) _ _ (by simp)]
  by_cases hf : faultC l ties = 0
  · have hr := right_of hf
    have hn := nV_le hr
    have c5 := ranges_ok l ties z z2 hr (k := k) (by omega)
    have hans : answer l ties (fun d => ivs d (1 + nC l) l.length) = match closed (nV l) (bds l ties) with
        | some d => (ivs d (1 + nC l) l.length, 0)
        | none => ([], 17) := if_pos hf
    rw [hans] at c2
    rw [hf] at c4
    unfold rangesV at c5
    have c6 := lined0_ok [] true (by decide) (k := k) (by simp only [List.length_nil]; omega) 0 rfl
    have hLn : lineM [] = [] := rfl
    rw [hLn] at c6
    simp only [List.length_nil, if_true, ownV_nil, ownB_nil, roV_nil] at c6
    cases hc : closed (nV l) (bds l ties) with
    | none =>
      rw [hc] at c2 c5
      have c2 := c2 (by simp)
      simp only at c2 c5
      simp -implicitDefEqProofs [c0, c1, c2, c4, c5]
      generalize hx : evLoopC _ _ _ _ _ _ _ _ _ _ = R
      apply loop_gen hx (fun i : Nat => (mkL 77 .junk [(0, roV z l.length (flatE eventE l)), (5, .nils), (6, .int .i64 17), (7, .int .i64 17), (8, .nils), (9, .nils), (10, .bool false), (33, .int .i64 l.length), (34, .int .i64 i)], [none, none, none, none])) (fun i => i ≤ l.length) (fun i => l.length - i) 0
      case hI => exact Nat.zero_le _
      case hq => omega
      case ht => simp -implicitDefEqProofs [liveOf]
      case round =>
        rintro i hi _
        have hi : i ≤ l.length := hi
        clear hx
        by_cases hlt : i < l.length
        · have e2 : addI .i64 (i : Int) 1 = (i : Int) + 1 := addI_i64 (by omega) (by omega)
          have hlt2 : (i : Int) < l.length := by omega
          simp -implicitDefEqProofs [hlt, hlt2, e2]
          exact rnd_next (i + 1) hlt (by omega) (by simp -implicitDefEqProofs [liveOf])
        · obtain rfl : i = l.length := by omega
          simp -implicitDefEqProofs [c0, c1, c6, q0]
    | some d =>
      rw [hc] at c5
      have hs := solve_ok l ties z z2 hl ht (k := k - 1) (by omega)
      rw [hans, hc, show k - 1 + 1 = k by omega] at hs
      simp only [ansV] at hs
      clear c2
      by_cases hne : l = []
      · subst hne
        have h1 : nC [] = 0 := rfl
        have h2 : nV [] = 1 := rfl
        simp only [h1, h2, List.length_nil, ivs_zero] at hs c5
        simp at hs c5 c4
        have c2 := events_zero [] ties z z2 (k := k) (by omega) (by simpa using hs)
        simp at c2
        simp -implicitDefEqProofs [c0, c1, c2, c4, c5]
        generalize hx : evLoopC _ _ _ _ _ _ _ _ _ _ = R
        apply loop_gen hx (fun i : Nat => (mkL 77 .junk [(0, roV z 0 []), (5, .nils), (6, .int .i64 0), (7, .int .i64 0), (8, .nils), (9, .nils), (10, .bool true), (33, .int .i64 0), (34, .int .i64 0)], [none, none, none, none])) (fun _ => True) (fun i => 0) 0
        case hI => trivial
        case hq => omega
        case ht => simp -implicitDefEqProofs [liveOf]
        case round =>
          rintro i _ _
          clear hx
          simp -implicitDefEqProofs [c0, c1, c6, q0]
      · have hcp := nC_pos hne
        have hlp : 0 < l.length := List.length_pos_iff.2 hne
        have hnn : nV l - 1 = nC l + l.length := by unfold nV; omega
        have hall := ivs_add d 1 (nC l) l.length
        have hir := ivs_right hr hc
        have hl40 := hr.hl
        simp only at c5
        rw [hnn, hall] at c5
        have hE : (ivs d 1 (nC l)).length = nC l := by simp
        have hT : (ivs d (1 + nC l) l.length).length = l.length := by simp
        unfold nV at hn
        generalize ivs d 1 (nC l) = E at *
        generalize ivs d (1 + nC l) l.length = T at *
        obtain ⟨a, ha⟩ : ∃ q, nC l = q + 1 := ⟨nC l - 1, by omega⟩
        obtain ⟨b, hb⟩ : ∃ q, l.length = q + 1 := ⟨l.length - 1, by omega⟩
        have hq : nC l + l.length = a + b + 1 + 1 := by omega
        have hTb : T.length = b + 1 := by omega
        have c2 := events_some l ties z z2 T b hTb (by omega) hir (k := k) (by omega) (by rw [hTb] at hs; simpa using hs)
        have hfl := num_fault (T := T) (by omega) hir
        have c7 := lined0_ok (numM T) false (by simp; omega) (k := k) (by simp; omega) 0 hfl.symm
        have hpos : 0 < (lineM (numM T)).length := List.length_pos_of_mem ((lineM_mem (numM T) ((numM T)[0]'(by simp; omega))).2 (List.getElem_mem _))
        obtain ⟨t, ht2⟩ : ∃ t, (lineM (numM T)).length = t + 1 := ⟨(lineM (numM T)).length - 1, by omega⟩
        have hDl := lineM_len (numM T)
        rw [numM_length] at hDl
        have c8 := equal_ok (lineM (numM T)) (lineM (numM T)) false false (by omega) (k := k) (by omega)
        have u1 : List.take ((t + 1) * 3) (flatE markE (lineM (numM T))) = flatE markE (lineM (numM T)) := by rw [List.take_of_length_le]; simp [ht2]
        have u2 : ∀ Z : List Mark, List.take ((t + 1) * 3) (flatE markE (lineM (numM T)) ++ flatE markE Z) = flatE markE (lineM (numM T)) := fun Z => by
          rw [List.take_append_of_le_length (by simp [ht2])]; exact u1
        rw [hq] at c5
        rw [ha] at hE hn
        rw [ht2] at c2 c7 c8
        rw [numM_length, hTb] at c7
        rw [hTb] at c2
        simp at c2 c5 c7 c8
        rw [hb] at c2 c4 c5
        simp at c2 c4 c5
        have ta := tkM (numM T)
        rw [numM_length, hTb] at ta
        have hnum := fun i h => numM_succ T i h
        have hcat : ∀ i (h : i < T.length), List.take 2 (List.drop ((a + 1 + i) * 2) (flatE pairE E ++ flatE pairE T)) = [.int .i64 T[i].1, .int .i64 T[i].2] := fun i h => by
          have h1 := at_pairs (E ++ T) (a + 1 + i) (by simp; omega)
          rw [flatE_append, List.getElem_append_right (by omega)] at h1
          simp only [hE, Nat.add_sub_cancel_left] at h1
          exact h1
        have hEl : (flatE pairE E).length = (a + 1) * 2 := by simp [hE]
        have hTl : (flatE pairE T).length = (b + 1) * 2 := by simp [hTb]
        generalize hP : flatE pairE E ++ flatE pairE T = P at *
        have hPl : P.length = (a + b + 1 + 1) * 2 := by rw [← hP, List.length_append, hEl, hTl]; omega
        have hPr : refsL P = [] := by rw [← hP]; simp
        have hPs : ∀ hp hs hm, subL hp hs hm P = P := by intro hp hs hm; rw [← hP]; simp
        have hPo : ownL P = true := by rw [← hP]; simp
        generalize lineM (numM T) = D at *
        rw [hb]
        simp -implicitDefEqProofs [c0, c1, c2, c4, c5, hPr, hPs, hPo]
        generalize hx : evLoopC _ _ _ _ _ _ _ _ _ _ = R
        apply loop_gen hx (fun i : Nat => (mkL 77 .junk [(0, .ros (b + 1) (flatE eventE l)), (5, .sl 1 0 (t + 1) 3), (6, .int .i64 0), (7, .int .i64 0), (8, ownV true 2 0 i 3), (9, .sl 3 0 (a + b + 1 + 1) 2), (10, .bool true), (33, .int .i64 ((b : Int) + 1)), (34, .int .i64 i)], [none, some (.cells (flatE markE D ++ flatE markE (List.replicate (b + 1 - (t + 1)) mark0)) false), ownB true i (flatE markE (numM (T.take i))), some (.cells P false)])) (fun i => i ≤ b + 1) (fun i => b + 1 - i) 0
        case hI => exact Nat.zero_le _
        case hq => omega
        case ht => simp -implicitDefEqProofs [liveOf, hPr, hPs, hPo]
        case round =>
          rintro i hi _
          have hi : i ≤ b + 1 := hi
          clear hx
          by_cases hlt : i < b + 1
          · have hlT : i < T.length := by omega
            have e2 : addI .i64 (i : Int) 1 = (i : Int) + 1 := addI_i64 (by omega) (by omega)
            have e3 : subI .i64 ((a : Int) + b + 1 + 1) ((b : Int) + 1) = (a : Int) + 1 := by rw [subI_i64 (by omega) (by omega)]; omega
            have e4 : addI .i64 ((a : Int) + 1) (i : Int) = ((a + 1 + i : Nat) : Int) := by rw [addI_i64 (by omega) (by omega)]; omega
            have hat := hcat i hlT
            have hs := hnum i hlT
            have hlen : (numM (T.take i)).length = i := by simp; omega
            have hlt2 : (i : Int) < (b : Int) + 1 := by omega
            have h2 : 2 ≤ P.length - (a + 1 + i) * 2 := by omega
            have hlt4 : a + 1 + i < a + b + 1 + 1 := by omega
            generalize T[i] = p at *
            generalize numM (T.take i) = S at *
            cases i with
            | zero =>
              obtain rfl : S = [] := List.eq_nil_of_length_eq_zero hlen
              have e2 : addI .i64 0 1 = 1 := addI_i64 (by omega) (by omega)
              simp at hat hs e4
              have g1 : (0 : Int) ≤ (a : Int) + 1 := by omega
              have g2 : (a : Int) + 1 < (a : Int) + b + 1 + 1 := by omega
              have g3 : ((a : Int) + 1).toNat = a + 1 := by omega
              have g4 : 2 ≤ (a + b + 1 + 1) * 2 - (a + 1) * 2 := by omega
              have g5 : a + 1 < a + b + 1 + 1 := by omega
              simp -implicitDefEqProofs [hlt, hlt2, e2, e3, e4, hat, g1, g2, g3, g4, g5, hPl, hPr, hPs, hPo, bld60]
              exact rnd_next 1 (by simp) (by omega) (by simp -implicitDefEqProofs [liveOf, hs, markE_f, hPr, hPs, hPo])
            | succ q =>
              have hlt3 : q < b := by omega
              have hq0 : (0 : Int) ≤ (q : Int) + 1 := by omega
              have e5 : addI .i64 ((q : Int) + 1) 1 = (q : Int) + 1 + 1 := addI_i64 (by omega) (by omega)
              have hb2 : (q + 1 + 1) * 24 ≤ 140737488355328 := by omega
              simp at hs e4
              have g1 : (0 : Int) ≤ (a : Int) + 1 + ((q : Int) + 1) := by omega
              have g2 : (a : Int) + 1 + ((q : Int) + 1) < (a : Int) + b + 1 + 1 := by omega
              have g3 : ((a : Int) + 1 + ((q : Int) + 1)).toNat = a + 1 + (q + 1) := by omega
              have g4 : 2 ≤ (a + b + 1 + 1) * 2 - (a + 1 + (q + 1)) * 2 := by omega
              have g5 : a + 1 + (q + 1) < a + b + 1 + 1 := by omega
              simp -implicitDefEqProofs [hlt, hlt2, e2, e3, e4, hat, g1, g2, g3, g4, g5, hPl, hPr, hPs, hPo, hlen, hb2, hlt3, hq0, e5, bld60]
              exact rnd_next (q + 1 + 1) (by simp; omega) (by omega) (by simp -implicitDefEqProofs [liveOf, hs, markE_f, hPr, hPs, hPo])
          · obtain rfl : i = b + 1 := by omega
            have ht : T.take (b + 1) = T := List.take_of_length_le (by omega)
            simp -implicitDefEqProofs [ht, ta, c0, c1, c7, c8, u1, u2, hPr, hPs, hPo]
  · have c2 := c2 (by unfold answer; rw [if_neg hf]; exact hf)
    unfold answer at c2
    rw [if_neg hf] at c2
    simp only at c2
    simp -implicitDefEqProofs [c0, c1, c2, c4, hf, q0]
end Go.Ev.Try.Ln

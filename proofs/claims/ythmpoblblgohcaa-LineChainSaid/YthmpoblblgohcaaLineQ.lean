/-
  THE LINE SEAT: the law LineChain, its walk (own work).
-/
import Derived.Test.YthmpoblblgohcaaLineP
set_option linter.unusedSimpArgs false
set_option linter.unusedVariables false
set_option maxRecDepth 100000
set_option maxHeartbeats 4000000
namespace Go.Ev.Try
open Go Go.Ev Go.Proofs

theorem law6_ok (l l2 : List Int) (z z2 : Bool) {k : Nat} (hk : 4000 < k) :
    evF Try.prog Γ (k + 1) 6 [roV z l.length (flatE (intE .i64) l), roV z2 l2.length (flatE (intE .i64) l2)] [] = some (.bool true, []) := by
  obtain ⟨k, rfl⟩ : ∃ j, k = j + 2 := ⟨k - 2, by omega⟩
  obtain ⟨ms, hM, h11, c1⟩ := marks_ok l z (k := k + 1) (by omega)
  have hV := hM.valid (by omega)
  have c2 := of_ok ms (by omega) hV (k := k + 1) (by omega)
  have hlen := isort_length ms
  have hw : ∀ m ∈ isort ms, m.low ≤ m.high := fun m h => (hV.range m h).2.2
  have c3 := chain_ok (isort ms) hV (by omega) (k := k + 1) (by omega)
  have c5 := lined_ok (k := k + 1) (by omega)
  have hpk := chain_picked (isort ms) hw
  have hnil := chain_nil (isort ms) hw
  have hmost := fun O => chain_most (isort ms) O hw
  rw [b6 (fun _ _ => rfl) _ _ (by simp)]
  generalize isort ms = S at *
  cases hn : ms.length with
  | zero =>
    have hS : S = [] := List.length_eq_zero_iff.1 (by omega)
    subst hS
    rw [hn] at c1 c2
    rw [show chain [] = [] from rfl] at c3
    simp at c1 c2 c3
    simp -implicitDefEqProofs [c1, c2, c3, c5]
    generalize hx : evLoopC _ _ _ _ _ _ _ _ _ _ = R
    clear c1 c2 c3 c5
    apply loop_gen hx (fun _ : Nat => (mkL 100 .junk [(1, roV z2 l2.length (flatE (intE .i64) l2)), (5, .nils), (7, .nils), (45, .nils), (46, .int .i64 0), (47, .int .i64 0)], [none, none, none, none])) (fun _ => True) (fun _ => 0) 0
    case hI => trivial
    case hq => omega
    case ht => simp -implicitDefEqProofs [liveOf]
    case round =>
      intro i _ _
      clear hx
      simp -implicitDefEqProofs
      generalize hy : evLoopC _ _ _ _ _ _ _ _ _ _ = R2
      apply loop_gen hy (fun _ : Nat => (mkL 100 .junk [(7, .nils), (11, .nils), (12, .ptr 2 0), (75, .nils), (76, .int .i64 0), (77, .int .i64 0)], [none, none, some (.cells [roV z2 l2.length (flatE (intE .i64) l2)] true), none, none])) (fun _ => True) (fun _ => 0) 0
      case hI => trivial
      case hq => omega
      case ht => simp -implicitDefEqProofs [liveOf]
      case round =>
        intro i _ _
        clear hy
        simp -implicitDefEqProofs
  | succ n =>
    rw [hn] at c1 c2 hlen
    rw [hlen] at c3
    have hcl : (chain S).length ≤ S.length := by have := foldl_pick_length (ByEnd.isort S) []; rw [ByEnd.isort_length] at this; simpa [chain] using this
    have hc0 : ¬ (chain S).length = 0 := fun h => by rw [hnil] at h; omega
    obtain ⟨c, hc⟩ : ∃ c, (chain S).length = c + 1 := ⟨(chain S).length - 1, by omega⟩
    have t1 : List.take ((n + 1) * 3) (flatE markE S) = flatE markE S := by rw [List.take_of_length_le]; simp [hlen]
    have t2 : List.take ((n + 1) * 3) (flatE markE ms) = flatE markE ms := by rw [List.take_of_length_le]; simp [hn]
    rw [hc] at c3
    simp only [roV_succ, ownV_succ, ownB_succ] at c1 c2 c3
    generalize chain S = C at *
    have d0 : ¬ ((c : Int) + 1 = 0) := by omega
    have d1 : ¬ ((n : Int) + 1 = 0) := by omega
    simp -implicitDefEqProofs [c1, c2, c3, c5, t1, t2, d0, d1]
    generalize hx : evLoopC _ _ _ _ _ _ _ _ _ _ = R
    clear c1 c2 c3 c5
    apply loop_gen hx (fun i : Nat => (mkL 100 .junk [(1, roV z2 l2.length (flatE (intE .i64) l2)), (5, .sl 1 0 (n + 1) 3), (7, .sl 2 0 (c + 1) 3), (45, .sl 2 0 (c + 1) 3), (46, .int .i64 (c + 1 : Nat)), (47, .int .i64 i)],
        [none, some (.cells (flatE markE S) false), some (.cells (flatE markE C) false), none]))
      (fun i => i ≤ c + 1) (fun i => c + 1 - i) 0
    case hI => exact Nat.zero_le _
    case hq => omega
    case ht => simp -implicitDefEqProofs [liveOf]
    case round =>
      intro i hi _
      have hSl : S.length ≤ 1000 := by omega
      clear hx
      by_cases hlt : i < c + 1
      · have hltC : i < C.length := by omega
        have hlt2 : (i : Int) < (c : Int) + 1 := by omega
        have hiN : i ≤ c := by omega
        have e2 : addI .i64 (i : Int) 1 = (i : Int) + 1 := addI_i64 (by omega) (by omega)
        have h3 : 3 ≤ C.length * 3 - i * 3 := by omega
        have hm := at_marks C i hltC
        have hin : C[i] ∈ S := hpk.sub _ (List.getElem_mem hltC)
        have cc := contains_ok C[i] S true hSl (k := k + 1) (by omega)
        rw [decide_eq_true hin, hlen] at cc
        simp only [roV_succ] at cc
        cases i with
        | zero =>
          have m0 : List.take 3 (flatE markE C) = [.int .i64 C[0].id, .int .i64 C[0].low, .int .i64 C[0].high] := by
            have h := at_marks C 0 hltC
            rw [Nat.zero_mul, List.drop_zero] at h
            exact h
          have h3' : 3 ≤ C.length * 3 := by omega
          have e9 : addI .i64 0 1 = 1 := addI_i64 (by omega) (by omega)
          have b0 : (0 : Int) < (c : Int) + 1 := by omega
          generalize C[0] = m at *
          simp -implicitDefEqProofs [b0, m0, e9, h3', markE_f, t1, cc]
          exact rnd_next 1 (by omega) (by omega) (by simp -implicitDefEqProofs [liveOf])
        | succ p =>
          have hpC : p < C.length := by omega
          have hap := hpk.apart p hltC
          have md := drop_high C p hpC
          have h4 : 3 ≤ C.length * 3 - (p + 1) * 3 := by omega
          have e3 : subI .i64 ((p : Int) + 1) 1 = (p : Int) := by rw [subI_i64 (by omega) (by omega)]; omega
          have e4 : addI .i64 ((p : Int) + 1) 1 = (p : Int) + 1 + 1 := addI_i64 (by omega) (by omega)
          have e5 : (0 : Int) < (p : Int) + 1 := by omega
          have e6 : (0 : Int) ≤ (p : Int) + 1 := by omega
          have b1 : (p : Int) + 1 < (c : Int) + 1 := by omega
          have b2 : (p : Int) < (c : Int) + 1 := by omega
          have b3 : (p : Int) < c := by omega
          have b4 : p < c := by omega
          have b5 : p ≤ c := by omega
          have hnot : ¬ C[p + 1].low ≤ C[p].high := by omega
          generalize C[p + 1] = m at *
          generalize C[p] = y at *
          simp -implicitDefEqProofs [b1, b2, b3, b4, b5, hm, md, e3, e4, e5, e6, h4, markE_f, t1, cc, hnot]
          exact rnd_next (p + 1 + 1) (by omega) (by omega) (by simp -implicitDefEqProofs [liveOf])
      · have hi' : i = c + 1 := by omega
        subst hi'
        simp -implicitDefEqProofs
        generalize hy : evLoopC _ _ _ _ _ _ _ _ _ _ = R2
        apply loop_gen hy (fun a : Nat × (Bool × List Int) × List Mark => (mkL 100 .junk [(7, .sl 0 0 (c + 1) 3), (11, ownV true 1 0 a.2.2.length 3), (12, .ptr 2 0), (75, .sl 3 0 (n + 1) 3), (76, .int .i64 (n + 1 : Nat)), (77, .int .i64 a.1)],
            [some (.cells (flatE markE C) false), ownB true a.2.2.length (flatE markE a.2.2), some (.cells [roV a.2.1.1 a.2.1.2.length (flatE (intE .i64) a.2.1.2)] true), some (.cells (flatE markE S) false), none]))
          (fun a => a.1 ≤ n + 1 ∧ a.2.2.length ≤ a.1 ∧ (∀ m ∈ a.2.2, m ∈ S) ∧ a.2.2.Pairwise (fun x y => touchP x y = false)) (fun a => n + 1 - a.1) (0, (z2, l2), [])
        case hI => simp
        case hq => simp only; omega
        case ht => simp -implicitDefEqProofs [liveOf]
        case round =>
          rintro ⟨j, ⟨zp, P⟩, O⟩ ⟨hj, hOl, hsub, hap⟩ _
          clear hy
          simp only at hj hOl hsub hap
          by_cases hlt : j < n + 1
          · have hltS : j < S.length := by omega
            have hlt2 : (j : Int) < (n : Int) + 1 := by omega
            have hjN : j ≤ n := by omega
            have e2 : addI .i64 (j : Int) 1 = (j : Int) + 1 := addI_i64 (by omega) (by omega)
            have h3 : 3 ≤ S.length * 3 - j * 3 := by omega
            have hm := at_marks S j hltS
            have hmS : S[j] ∈ S := List.getElem_mem hltS
            have cn := next_ok P zp 2 (by omega) (by omega) (k := k)
            have ca := any_ok 29 [.int .i64 S[j].id, .int .i64 S[j].low, .int .i64 S[j].high] (touchP S[j]) rfl O true (by omega) (k := k) (by omega) (fun x => by have := touch_ok S[j] x (k := k - 1); rwa [show k - 1 + 1 = k by omega] at this)
            generalize S[j] = m at *
            have hPt : ∀ zz : Bool, roV zz (P.length - 1) (flatE (intE .i64) P.tail) = roV zz P.tail.length (flatE (intE .i64) P.tail) := fun zz => by rw [List.length_tail]
            by_cases hx2 : nextN P 2 = 0
            · cases hO0 : O.length with
              | zero =>
                have hnilO : O = [] := List.length_eq_zero_iff.1 hO0
                subst hnilO
                simp at ca
                simp -implicitDefEqProofs [hlt2, hjN, hm, e2, h3, markE_f, cn, ca, hx2]
                refine rnd_next (j + 1, (zp && P.isEmpty, P.tail), [m]) ⟨by simp only; omega, by simp, by simpa using hmS, by simp⟩ (by simp only; omega) (by simp -implicitDefEqProofs [liveOf, markE_f])
              | succ b =>
                have tO : List.take ((b + 1) * 3) (flatE markE O) = flatE markE O := by rw [List.take_of_length_le]; simp [hO0]
                have hb : (b + 1 + 1) * 24 ≤ 140737488355328 := by omega
                rw [hO0] at ca
                simp only [roV_succ] at ca
                cases hany : O.any (touchP m) with
                | true =>
                  rw [hany] at ca
                  simp -implicitDefEqProofs [hlt2, hjN, hm, e2, h3, markE_f, cn, ca, hx2, hO0, tO]
                  refine rnd_next (j + 1, (zp && P.isEmpty, P.tail), O) ⟨by simp only; omega, by simp only; omega, hsub, hap⟩ (by simp only; omega) (by simp -implicitDefEqProofs [liveOf, markE_f, hO0])
                | false =>
                  rw [hany] at ca
                  rw [List.any_eq_false] at hany
                  simp -implicitDefEqProofs [hlt2, hjN, hm, e2, h3, markE_f, cn, ca, hx2, hO0, tO, hb]
                  refine rnd_next (j + 1, (zp && P.isEmpty, P.tail), O ++ [m]) ⟨by simp only; omega, by simp only [List.length_append, List.length_singleton]; omega, ?_, ?_⟩ (by simp only; omega) (by simp -implicitDefEqProofs [liveOf, markE_f, hO0])
                  · intro x hx
                    rcases List.mem_append.1 hx with hx | hx
                    · exact hsub x hx
                    · rw [List.mem_singleton] at hx; subst hx; exact hmS
                  · rw [List.pairwise_append]
                    refine ⟨hap, by simp, fun x hx y hy => ?_⟩
                    rw [List.mem_singleton] at hy; subst hy
                    have := hany x hx
                    rw [Bool.not_eq_true] at this
                    simp only [touchP, Bool.and_eq_false_iff, decide_eq_false_iff_not] at this ⊢
                    omega
            · cases hO0 : O.length with
              | zero =>
                have hnilO : O = [] := List.length_eq_zero_iff.1 hO0
                subst hnilO
                simp -implicitDefEqProofs [hlt2, hjN, hm, e2, h3, markE_f, cn, hx2]
                refine rnd_next (j + 1, (zp && P.isEmpty, P.tail), []) ⟨by simp only; omega, by simp, by simp, by simp⟩ (by simp only; omega) (by simp -implicitDefEqProofs [liveOf, markE_f])
              | succ b =>
                simp -implicitDefEqProofs [hlt2, hjN, hm, e2, h3, markE_f, cn, hx2, hO0]
                refine rnd_next (j + 1, (zp && P.isEmpty, P.tail), O) ⟨by simp only; omega, by simp only; omega, hsub, hap⟩ (by simp only; omega) (by simp -implicitDefEqProofs [liveOf, markE_f, hO0])
          · have hj' : j = n + 1 := by omega
            subst hj'
            have hfin := hmost O hsub hap
            rw [hc] at hfin
            cases hO0 : O.length with
            | zero =>
              have hnilO : O = [] := List.length_eq_zero_iff.1 hO0
              subst hnilO
              have hfin2 : (0 : Int) ≤ (c : Int) + 1 := by omega
              simp -implicitDefEqProofs [hfin2]
            | succ b =>
              have hfin2 : (b : Int) + 1 ≤ (c : Int) + 1 := by omega
              have hfin3 : b ≤ c := by omega
              simp -implicitDefEqProofs [hO0, hfin2, hfin3]
end Go.Ev.Try

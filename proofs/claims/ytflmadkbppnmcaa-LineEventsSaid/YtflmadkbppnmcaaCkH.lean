import Derived.Test.YtflmadkbppnmcaaCkE
import Derived.Test.YtflmadkbppnmcaaCkF
set_option linter.unusedSimpArgs false
set_option linter.unusedVariables false
set_option maxRecDepth 100000
set_option maxHeartbeats 4000000
namespace Go.Ev.Try
open Go Go.Ev Go.Proofs
def evFault (e : Event) : Int := if named e.clock = false then 6 else if e.show' < 0 ∨ 4294967295 < e.show' ∨ e.wide' < 0 ∨ 4294967295 < e.wide' then 4 else 0
def tieFault (n : Nat) (t : Tie) : Int := if t.a < -1 ∨ (n : Int) ≤ t.a ∨ t.b < 0 ∨ (n : Int) ≤ t.b then 8 else if t.a = t.b then 16 else if t.high < t.low ∨ t.low < -4294967295 ∨ 4294967295 < t.high then 4 else 0
def firstNZ : List Int → Int
  | [] => 0
  | x :: r => if x = 0 then firstNZ r else x
def faultC (l : List Event) (ties : List Tie) : Int :=
  if 40 < l.length ∨ 80 < ties.length ∨ 12 < (insF (clks l)).length then 2 else firstNZ (l.map evFault ++ ties.map (tieFault l.length))
theorem at_ties (l : List Tie) (i : Nat) (h : i < l.length) : List.take 4 (List.drop (i * 4) (flatE tieE l)) = [.int .i64 l[i].a, .int .i64 l[i].b, .int .i64 l[i].low, .int .i64 l[i].high] := at_flatE tieE rfl l i h
theorem drop_map {α β : Type} (f : α → β) (l : List α) (i : Nat) (h : i < l.length) : (l.map f).drop i = f l[i] :: (l.map f).drop (i + 1) := by
  rw [List.drop_eq_getElem_cons (by simpa using h)]; simp
theorem check_ok (l : List Event) (ties : List Tie) (z z2 : Bool) (hl : l.length ≤ 8796093022206) (ht : ties.length ≤ 8796093022206) {k : Nat} (hk : l.length + 200 < k) :
    evF Try.prog Γ (k + 1) 12 [roV z l.length (flatE eventE l), roV z2 ties.length (flatE tieE ties)] [] = some (.int .i64 (faultC l ties), []) := by
  obtain ⟨k, rfl⟩ : ∃ j, k = j + 1 := ⟨k - 1, by omega⟩
  have cc := clocks_ok l z (by omega) (k := k) (by omega)
  rw [names_eq] at cc
  rw [b12 (fun _ _ => rfl) _ _ (by simp)]
  by_cases h1 : 40 < l.length
  · have h1' : (40 : Int) < l.length := by omega
    simp -implicitDefEqProofs [h1, h1', faultC]
  have h1' : ¬ (40 : Int) < l.length := by omega
  by_cases h2 : 80 < ties.length
  · have h2' : (80 : Int) < ties.length := by omega
    simp -implicitDefEqProofs [h1, h1', h2, h2', faultC]
  have h2' : ¬ (80 : Int) < ties.length := by omega
  cases hc : (insF (clks l)).length with
  | zero =>
    rw [hc] at cc
    simp at cc
    have h30 : (insF (clks l)).length = _ := hc
    by_cases h3 : 12 < (insF (clks l)).length
    · have h3' : (12 : Int) < (insF (clks l)).length := by omega
      rw [hc] at h3'
      first | (exfalso; simp at h3'; done) | (simp at h3'; simp -implicitDefEqProofs [h1, h1', h2, h2', h3, h3', hc, cc, faultC]; omega) | (simp at h3'; simp -implicitDefEqProofs [h1, h1', h2, h2', h3, h3', hc, cc, faultC])
    have h3' : ¬ (12 : Int) < (insF (clks l)).length := by omega
    first
      | (have h3s : ¬ (12 : Int) < (c : Int) + 1 := by omega)
      | (have h3s : True := trivial)
    have hF : faultC l ties = firstNZ (l.map evFault ++ ties.map (tieFault l.length)) := by
      unfold faultC; rw [if_neg (by omega)]
    rw [hF]
    simp -implicitDefEqProofs [h1, h1', h2, h2', h3, h3', h3s, hc, cc]
    generalize hA : firstNZ (l.map evFault ++ ties.map (tieFault l.length)) = A
    generalize hx : evLoopC _ _ _ _ _ _ _ _ _ _ = R
    apply loop_gen hx (fun i : Nat => (mkL 104 .junk [(0, roV z l.length (flatE eventE l)), (1, roV z2 ties.length (flatE tieE ties)), (23, roV z l.length (flatE eventE l)), (24, .int .i64 l.length), (25, .int .i64 i)], [none, none, none]))
      (fun i => i ≤ l.length ∧ firstNZ ((l.map evFault).drop i ++ ties.map (tieFault l.length)) = A) (fun i => l.length - i) 0
    case hI => exact ⟨by omega, hA⟩
    case hq => omega
    case ht => simp -implicitDefEqProofs [liveOf]
    case round =>
      rintro i ⟨hi, hg⟩ _
      clear hx hA
      by_cases hlt : i < l.length
      · have hlt2 : (i : Int) < l.length := by omega
        have ms := at_events l i hlt
        have h5 : 3 ≤ l.length * 3 - i * 3 := by omega
        have e2 : addI .i64 (i : Int) 1 = (i : Int) + 1 := addI_i64 (by omega) (by omega)
        rw [drop_map evFault l i hlt, List.cons_append] at hg
        generalize l[i] = x at *
        have cn := named_ok x.clock (k := k) (by omega)
        cases hn : named x.clock with
        | false =>
          rw [hn] at cn
          have he : evFault x = 6 := by unfold evFault; rw [if_pos hn]
          rw [he] at hg
          have hg' : A = 6 := by rw [← hg]; rfl
          simp -implicitDefEqProofs [hlt, hlt2, ms, h5, cn, hg']
        | true =>
          rw [hn] at cn
          by_cases hr : x.show' < 0 ∨ 4294967295 < x.show' ∨ x.wide' < 0 ∨ 4294967295 < x.wide'
          · have he : evFault x = 4 := by unfold evFault; rw [if_neg (by rw [hn]; simp), if_pos hr]
            rw [he] at hg
            have hg' : A = 4 := by rw [← hg]; rfl
            by_cases r1 : x.show' < 0
            · simp -implicitDefEqProofs [hlt, hlt2, ms, h5, cn, hg', r1]
            · by_cases r2 : 4294967295 < x.show'
              · simp -implicitDefEqProofs [hlt, hlt2, ms, h5, cn, hg', r1, r2]
              · by_cases r3 : x.wide' < 0
                · simp -implicitDefEqProofs [hlt, hlt2, ms, h5, cn, hg', r1, r2, r3]
                · have r4 : 4294967295 < x.wide' := by omega
                  simp -implicitDefEqProofs [hlt, hlt2, ms, h5, cn, hg', r1, r2, r3, r4]
          · have he : evFault x = 0 := by unfold evFault; rw [if_neg (by rw [hn]; simp), if_neg hr]
            rw [he] at hg
            have r1 : ¬ x.show' < 0 := fun h => hr (.inl h)
            have r2 : ¬ 4294967295 < x.show' := fun h => hr (.inr (.inl h))
            have r3 : ¬ x.wide' < 0 := fun h => hr (.inr (.inr (.inl h)))
            have r4 : ¬ 4294967295 < x.wide' := fun h => hr (.inr (.inr (.inr h)))
            simp -implicitDefEqProofs [hlt, hlt2, ms, h5, cn, r1, r2, r3, r4, e2]
            exact rnd_next (i + 1) ⟨by omega, by rw [← hg]; simp [firstNZ]⟩ (by omega) (by simp -implicitDefEqProofs [liveOf])
      · have hi' : i = l.length := by omega
        subst hi'
        have hlt2 : ¬ (l.length : Int) < (l.length : Int) := by omega
        have hd : (l.map evFault).drop l.length = [] := List.drop_of_length_le (by simp)
        rw [hd, List.nil_append] at hg
        simp -implicitDefEqProofs [hlt2]
        generalize hy : evLoopC _ _ _ _ _ _ _ _ _ _ = R2
        apply loop_gen hy (fun j : Nat => (mkL 104 .junk [(0, roV z l.length (flatE eventE l)), (52, roV z2 ties.length (flatE tieE ties)), (53, .int .i64 ties.length), (54, .int .i64 j)], [none, none]))
          (fun j => j ≤ ties.length ∧ firstNZ ((ties.map (tieFault l.length)).drop j) = A) (fun j => ties.length - j) 0
        case hI => exact ⟨by omega, hg⟩
        case hq => omega
        case ht => simp -implicitDefEqProofs [liveOf]
        case round =>
          rintro j ⟨hj, hg⟩ _
          clear hy
          by_cases hjl : j < ties.length
          · have hjl2 : (j : Int) < ties.length := by omega
            have ms := at_ties ties j hjl
            have h5 : 4 ≤ ties.length * 4 - j * 4 := by omega
            have e2 : addI .i64 (j : Int) 1 = (j : Int) + 1 := addI_i64 (by omega) (by omega)
            rw [drop_map (tieFault l.length) ties j hjl] at hg
            generalize ties[j] = t at *
            by_cases hr : t.a < -1 ∨ (l.length : Int) ≤ t.a ∨ t.b < 0 ∨ (l.length : Int) ≤ t.b
            · have he : tieFault l.length t = 8 := by unfold tieFault; rw [if_pos hr]
              rw [he] at hg
              have hg' : A = 8 := by rw [← hg]; rfl
              by_cases r1 : t.a < -1
              · simp -implicitDefEqProofs [hjl, hjl2, ms, h5, hg', r1]
              · by_cases r2 : (l.length : Int) ≤ t.a
                · simp -implicitDefEqProofs [hjl, hjl2, ms, h5, hg', r1, r2]
                · by_cases r3 : t.b < 0
                  · simp -implicitDefEqProofs [hjl, hjl2, ms, h5, hg', r1, r2, r3]
                  · have r4 : (l.length : Int) ≤ t.b := by omega
                    simp -implicitDefEqProofs [hjl, hjl2, ms, h5, hg', r1, r2, r3, r4]
            · have r1 : ¬ t.a < -1 := fun h => hr (.inl h)
              have r2 : ¬ (l.length : Int) ≤ t.a := fun h => hr (.inr (.inl h))
              have r3 : ¬ t.b < 0 := fun h => hr (.inr (.inr (.inl h)))
              have r4 : ¬ (l.length : Int) ≤ t.b := fun h => hr (.inr (.inr (.inr h)))
              by_cases s1 : t.a = t.b
              · have he : tieFault l.length t = 16 := by unfold tieFault; rw [if_neg hr, if_pos s1]
                rw [he] at hg
                have hg' : A = 16 := by rw [← hg]; rfl
                have r1' : ¬ t.b < -1 := by rw [← s1]; exact r1
                simp -implicitDefEqProofs [hjl, hjl2, ms, h5, hg', r1, r1', r2, r3, r4, s1]
              · by_cases hq : t.high < t.low ∨ t.low < -4294967295 ∨ 4294967295 < t.high
                · have he : tieFault l.length t = 4 := by unfold tieFault; rw [if_neg hr, if_neg s1, if_pos hq]
                  rw [he] at hg
                  have hg' : A = 4 := by rw [← hg]; rfl
                  by_cases q1 : t.high < t.low
                  · simp -implicitDefEqProofs [hjl, hjl2, ms, h5, hg', r1, r2, r3, r4, s1, q1]
                  · by_cases q2 : t.low < -4294967295
                    · simp -implicitDefEqProofs [hjl, hjl2, ms, h5, hg', r1, r2, r3, r4, s1, q1, q2]
                    · have q3 : 4294967295 < t.high := by omega
                      simp -implicitDefEqProofs [hjl, hjl2, ms, h5, hg', r1, r2, r3, r4, s1, q1, q2, q3]
                · have he : tieFault l.length t = 0 := by unfold tieFault; rw [if_neg hr, if_neg s1, if_neg hq]
                  rw [he] at hg
                  have q1 : ¬ t.high < t.low := fun h => hq (.inl h)
                  have q2 : ¬ t.low < -4294967295 := fun h => hq (.inr (.inl h))
                  have q3 : ¬ 4294967295 < t.high := fun h => hq (.inr (.inr h))
                  simp -implicitDefEqProofs [hjl, hjl2, ms, h5, r1, r2, r3, r4, s1, q1, q2, q3, e2]
                  exact rnd_next (j + 1) ⟨by omega, by rw [← hg]; simp [firstNZ]⟩ (by omega) (by simp -implicitDefEqProofs [liveOf])
          · have hj' : j = ties.length := by omega
            subst hj'
            have hlt3 : ¬ (ties.length : Int) < (ties.length : Int) := by omega
            have hd2 : (ties.map (tieFault l.length)).drop ties.length = [] := List.drop_of_length_le (by simp)
            rw [hd2] at hg
            have hg' : A = 0 := by rw [← hg]; rfl
            simp -implicitDefEqProofs [hlt3, hg']
  | succ c =>
    rw [hc] at cc
    simp at cc
    have h30 : (insF (clks l)).length = _ := hc
    by_cases h3 : 12 < (insF (clks l)).length
    · have h3' : (12 : Int) < (insF (clks l)).length := by omega
      rw [hc] at h3'
      first | (exfalso; simp at h3'; done) | (simp at h3'; simp -implicitDefEqProofs [h1, h1', h2, h2', h3, h3', hc, cc, faultC]; omega) | (simp at h3'; simp -implicitDefEqProofs [h1, h1', h2, h2', h3, h3', hc, cc, faultC])
    have h3' : ¬ (12 : Int) < (insF (clks l)).length := by omega
    first
      | (have h3s : ¬ (12 : Int) < (c : Int) + 1 := by omega)
      | (have h3s : True := trivial)
    have hF : faultC l ties = firstNZ (l.map evFault ++ ties.map (tieFault l.length)) := by
      unfold faultC; rw [if_neg (by omega)]
    rw [hF]
    simp -implicitDefEqProofs [h1, h1', h2, h2', h3, h3', h3s, hc, cc]
    generalize hA : firstNZ (l.map evFault ++ ties.map (tieFault l.length)) = A
    generalize hx : evLoopC _ _ _ _ _ _ _ _ _ _ = R
    apply loop_gen hx (fun i : Nat => (mkL 104 .junk [(0, roV z l.length (flatE eventE l)), (1, roV z2 ties.length (flatE tieE ties)), (23, roV z l.length (flatE eventE l)), (24, .int .i64 l.length), (25, .int .i64 i)], [none, none, none]))
      (fun i => i ≤ l.length ∧ firstNZ ((l.map evFault).drop i ++ ties.map (tieFault l.length)) = A) (fun i => l.length - i) 0
    case hI => exact ⟨by omega, hA⟩
    case hq => omega
    case ht => simp -implicitDefEqProofs [liveOf]
    case round =>
      rintro i ⟨hi, hg⟩ _
      clear hx hA
      by_cases hlt : i < l.length
      · have hlt2 : (i : Int) < l.length := by omega
        have ms := at_events l i hlt
        have h5 : 3 ≤ l.length * 3 - i * 3 := by omega
        have e2 : addI .i64 (i : Int) 1 = (i : Int) + 1 := addI_i64 (by omega) (by omega)
        rw [drop_map evFault l i hlt, List.cons_append] at hg
        generalize l[i] = x at *
        have cn := named_ok x.clock (k := k) (by omega)
        cases hn : named x.clock with
        | false =>
          rw [hn] at cn
          have he : evFault x = 6 := by unfold evFault; rw [if_pos hn]
          rw [he] at hg
          have hg' : A = 6 := by rw [← hg]; rfl
          simp -implicitDefEqProofs [hlt, hlt2, ms, h5, cn, hg']
        | true =>
          rw [hn] at cn
          by_cases hr : x.show' < 0 ∨ 4294967295 < x.show' ∨ x.wide' < 0 ∨ 4294967295 < x.wide'
          · have he : evFault x = 4 := by unfold evFault; rw [if_neg (by rw [hn]; simp), if_pos hr]
            rw [he] at hg
            have hg' : A = 4 := by rw [← hg]; rfl
            by_cases r1 : x.show' < 0
            · simp -implicitDefEqProofs [hlt, hlt2, ms, h5, cn, hg', r1]
            · by_cases r2 : 4294967295 < x.show'
              · simp -implicitDefEqProofs [hlt, hlt2, ms, h5, cn, hg', r1, r2]
              · by_cases r3 : x.wide' < 0
                · simp -implicitDefEqProofs [hlt, hlt2, ms, h5, cn, hg', r1, r2, r3]
                · have r4 : 4294967295 < x.wide' := by omega
                  simp -implicitDefEqProofs [hlt, hlt2, ms, h5, cn, hg', r1, r2, r3, r4]
          · have he : evFault x = 0 := by unfold evFault; rw [if_neg (by rw [hn]; simp), if_neg hr]
            rw [he] at hg
            have r1 : ¬ x.show' < 0 := fun h => hr (.inl h)
            have r2 : ¬ 4294967295 < x.show' := fun h => hr (.inr (.inl h))
            have r3 : ¬ x.wide' < 0 := fun h => hr (.inr (.inr (.inl h)))
            have r4 : ¬ 4294967295 < x.wide' := fun h => hr (.inr (.inr (.inr h)))
            simp -implicitDefEqProofs [hlt, hlt2, ms, h5, cn, r1, r2, r3, r4, e2]
            exact rnd_next (i + 1) ⟨by omega, by rw [← hg]; simp [firstNZ]⟩ (by omega) (by simp -implicitDefEqProofs [liveOf])
      · have hi' : i = l.length := by omega
        subst hi'
        have hlt2 : ¬ (l.length : Int) < (l.length : Int) := by omega
        have hd : (l.map evFault).drop l.length = [] := List.drop_of_length_le (by simp)
        rw [hd, List.nil_append] at hg
        simp -implicitDefEqProofs [hlt2]
        generalize hy : evLoopC _ _ _ _ _ _ _ _ _ _ = R2
        apply loop_gen hy (fun j : Nat => (mkL 104 .junk [(0, roV z l.length (flatE eventE l)), (52, roV z2 ties.length (flatE tieE ties)), (53, .int .i64 ties.length), (54, .int .i64 j)], [none, none]))
          (fun j => j ≤ ties.length ∧ firstNZ ((ties.map (tieFault l.length)).drop j) = A) (fun j => ties.length - j) 0
        case hI => exact ⟨by omega, hg⟩
        case hq => omega
        case ht => simp -implicitDefEqProofs [liveOf]
        case round =>
          rintro j ⟨hj, hg⟩ _
          clear hy
          by_cases hjl : j < ties.length
          · have hjl2 : (j : Int) < ties.length := by omega
            have ms := at_ties ties j hjl
            have h5 : 4 ≤ ties.length * 4 - j * 4 := by omega
            have e2 : addI .i64 (j : Int) 1 = (j : Int) + 1 := addI_i64 (by omega) (by omega)
            rw [drop_map (tieFault l.length) ties j hjl] at hg
            generalize ties[j] = t at *
            by_cases hr : t.a < -1 ∨ (l.length : Int) ≤ t.a ∨ t.b < 0 ∨ (l.length : Int) ≤ t.b
            · have he : tieFault l.length t = 8 := by unfold tieFault; rw [if_pos hr]
              rw [he] at hg
              have hg' : A = 8 := by rw [← hg]; rfl
              by_cases r1 : t.a < -1
              · simp -implicitDefEqProofs [hjl, hjl2, ms, h5, hg', r1]
              · by_cases r2 : (l.length : Int) ≤ t.a
                · simp -implicitDefEqProofs [hjl, hjl2, ms, h5, hg', r1, r2]
                · by_cases r3 : t.b < 0
                  · simp -implicitDefEqProofs [hjl, hjl2, ms, h5, hg', r1, r2, r3]
                  · have r4 : (l.length : Int) ≤ t.b := by omega
                    simp -implicitDefEqProofs [hjl, hjl2, ms, h5, hg', r1, r2, r3, r4]
            · have r1 : ¬ t.a < -1 := fun h => hr (.inl h)
              have r2 : ¬ (l.length : Int) ≤ t.a := fun h => hr (.inr (.inl h))
              have r3 : ¬ t.b < 0 := fun h => hr (.inr (.inr (.inl h)))
              have r4 : ¬ (l.length : Int) ≤ t.b := fun h => hr (.inr (.inr (.inr h)))
              by_cases s1 : t.a = t.b
              · have he : tieFault l.length t = 16 := by unfold tieFault; rw [if_neg hr, if_pos s1]
                rw [he] at hg
                have hg' : A = 16 := by rw [← hg]; rfl
                have r1' : ¬ t.b < -1 := by rw [← s1]; exact r1
                simp -implicitDefEqProofs [hjl, hjl2, ms, h5, hg', r1, r1', r2, r3, r4, s1]
              · by_cases hq : t.high < t.low ∨ t.low < -4294967295 ∨ 4294967295 < t.high
                · have he : tieFault l.length t = 4 := by unfold tieFault; rw [if_neg hr, if_neg s1, if_pos hq]
                  rw [he] at hg
                  have hg' : A = 4 := by rw [← hg]; rfl
                  by_cases q1 : t.high < t.low
                  · simp -implicitDefEqProofs [hjl, hjl2, ms, h5, hg', r1, r2, r3, r4, s1, q1]
                  · by_cases q2 : t.low < -4294967295
                    · simp -implicitDefEqProofs [hjl, hjl2, ms, h5, hg', r1, r2, r3, r4, s1, q1, q2]
                    · have q3 : 4294967295 < t.high := by omega
                      simp -implicitDefEqProofs [hjl, hjl2, ms, h5, hg', r1, r2, r3, r4, s1, q1, q2, q3]
                · have he : tieFault l.length t = 0 := by unfold tieFault; rw [if_neg hr, if_neg s1, if_neg hq]
                  rw [he] at hg
                  have q1 : ¬ t.high < t.low := fun h => hq (.inl h)
                  have q2 : ¬ t.low < -4294967295 := fun h => hq (.inr (.inl h))
                  have q3 : ¬ 4294967295 < t.high := fun h => hq (.inr (.inr h))
                  simp -implicitDefEqProofs [hjl, hjl2, ms, h5, r1, r2, r3, r4, s1, q1, q2, q3, e2]
                  exact rnd_next (j + 1) ⟨by omega, by rw [← hg]; simp [firstNZ]⟩ (by omega) (by simp -implicitDefEqProofs [liveOf])
          · have hj' : j = ties.length := by omega
            subst hj'
            have hlt3 : ¬ (ties.length : Int) < (ties.length : Int) := by omega
            have hd2 : (ties.map (tieFault l.length)).drop ties.length = [] := List.drop_of_length_le (by simp)
            rw [hd2] at hg
            have hg' : A = 0 := by rw [← hg]; rfl
            simp -implicitDefEqProofs [hlt3, hg']
end Go.Ev.Try

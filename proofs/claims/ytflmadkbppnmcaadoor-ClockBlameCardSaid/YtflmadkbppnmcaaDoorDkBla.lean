/-
  THE CLOCK DOOR SEAT: ClockBlame's walk (own work).
-/
import Derived.Test.YtflmadkbppnmcaaDoorDkOr
import Derived.Test.YtflmadkbppnmcaaDoorDkC8
import Derived.Test.YtflmadkbppnmcaaDoorDkBc
import Derived.Test.YtflmadkbppnmcaaDoorDkBj
import Derived.Test.YtflmadkbppnmcaaDoorDkQ
set_option linter.unusedSimpArgs false
set_option linter.unusedVariables false
set_option maxRecDepth 100000
set_option maxHeartbeats 4000000
namespace Go.Ev.Tryd
open Go Go.Ev Go.Proofs

theorem fault_sub {l : List Event} {ties S : List Tie} (h : faultC l ties = 0) (hs : ∀ t ∈ S, t ∈ ties) (hn : S.length ≤ 80) : faultC l S = 0 := by
  unfold faultC at h ⊢
  split at h
  · cases h
  · rename_i hno
    rw [if_neg (by omega)]
    refine firstNZ_all fun x hx => ?_
    have hz := firstNZ_zero h
    rcases List.mem_append.1 hx with hx | hx
    · exact hz x (List.mem_append_left _ hx)
    · obtain ⟨t, ht, rfl⟩ := List.mem_map.1 hx
      exact hz _ (List.mem_append_right _ (List.mem_map.2 ⟨t, hs t ht, rfl⟩))

theorem blame_law (l : List Int) (z : Bool) {k : Nat} (hk : 1000 < k) :
    evF Tryd.prog Γ (k + 1) 5 [roV z l.length (flatE (intE .i64) l)] [] = some (.bool true, []) := by
  obtain ⟨k, rfl⟩ : ∃ j, k = j + 1 := ⟨k - 1, by omega⟩
  obtain ⟨E, T, es, ts, hM, c7⟩ := events_ok l z (k := k) (by omega)
  have hf := hM.fault
  have hr := hM.right
  have hn8 := hM.hn
  have hm9 := hM.hm
  have c9 := timed_ok (k := k) (by omega)
  have hnil : es = [] → ts = [] := fun he => by
    subst he
    cases ts with
    | nil => rfl
    | cons t ts => have := hM.tie t (by simp); have h1 := hM.hT; unfold TieP at this; simp at h1; rw [h1] at this; simp at this; omega
  generalize decide (nextN l 2 = 0) = even at *
  have x14 := why_ok es ts true true (by omega) (by omega) (k := k) (by omega)
  unfold whyV at x14
  rw [if_pos hf] at x14
  rw [b5 (fun _ _ => rfl) _ _ (by simp)]
  by_cases hfe : feas es ts = true
  · rw [if_pos hfe] at x14
    cases hn : es.length with
    | zero =>
      obtain rfl : es = [] := List.eq_nil_of_length_eq_zero hn
      obtain rfl := hnil rfl
      simp at c7 x14
      simp -implicitDefEqProofs [c7, c9, x14]
    | succ n =>
      have tkE : List.take ((n + 1) * 3) (flatE eventE es) = flatE eventE es := by rw [← hn]; exact take_all_flatE eventE rfl es
      cases hm : ts.length with
      | zero =>
        obtain rfl : ts = [] := List.eq_nil_of_length_eq_zero hm
        simp [hn] at c7 x14
        simp -implicitDefEqProofs [c7, c9, tkE, x14]
      | succ m =>
        have tkT : List.take ((m + 1) * 4) (flatE tieE ts) = flatE tieE ts := by rw [← hm]; exact take_all_flatE tieE rfl ts
        simp [hn, hm] at c7 x14
        simp -implicitDefEqProofs [c7, c9, tkE, tkT, x14]
  · have hfe : feas es ts = false := by simpa using hfe
    have htne : ts ≠ [] := fun h => by subst h; rw [feas_nil hr] at hfe; cases hfe
    have hene : es ≠ [] := fun h => htne (hnil h)
    obtain ⟨n, hn⟩ : ∃ n, es.length = n + 1 := ⟨es.length - 1, by have := List.length_pos_iff.2 hene; omega⟩
    obtain ⟨m, hm⟩ : ∃ n, ts.length = n + 1 := ⟨ts.length - 1, by have := List.length_pos_iff.2 htne; omega⟩
    have tkE : List.take ((n + 1) * 3) (flatE eventE es) = flatE eventE es := by rw [← hn]; exact take_all_flatE eventE rfl es
    have tkT : List.take ((m + 1) * 4) (flatE tieE ts) = flatE tieE ts := by rw [← hm]; exact take_all_flatE tieE rfl ts
    rw [if_neg (by rw [hfe]; decide), if_neg (by omega)] at x14
    have hCf := chosen_infeasible hfe
    have hCl := chosen_len es ts ts.length
    have hClt := chosen_lt es ts ts.length
    have hneed := fun (i : Nat) (hi : i < (chosen es ts ts.length).length) => chosen_needed hr hi
    obtain ⟨C, hC⟩ : ∃ C, C = chosen es ts ts.length := ⟨_, rfl⟩
    rw [← hC] at x14 hCf hCl hClt hneed
    have hCne : C ≠ [] := fun h => by subst h; simp at hCf; rw [feas_nil (hr.sub (by simp) (by simp))] at hCf; cases hCf
    obtain ⟨c, hc⟩ : ∃ n, C.length = n + 1 := ⟨C.length - 1, by have := List.length_pos_iff.2 hCne; omega⟩
    have hdrop := fun (j : Nat) (h : j < C.length) => drop_castL C (List.replicate (ts.length - C.length) 0) j h
    have hLl : (castL C ++ List.replicate (ts.length - C.length) 0).length = m + 1 := by simp; omega
    generalize castL C ++ List.replicate (ts.length - C.length) 0 = L at *
    obtain ⟨S, hS⟩ : ∃ S, S = C.map (tieAt ts) := ⟨_, rfl⟩
    rw [← hS] at hCf
    have hSl : S.length = c + 1 := by rw [hS, List.length_map, hc]
    have hSi : ∀ j (h : j < C.length) (h2 : j < S.length), S[j] = tieAt ts C[j] := fun j h h2 => by subst hS; simp
    have hSm : ∀ t ∈ S, t ∈ ts := fun t ht => by
      rw [hS] at ht
      obtain ⟨j, hj, rfl⟩ := List.mem_map.1 ht
      have := hClt j hj
      unfold tieAt
      rw [List.getD_eq_getElem?_getD, List.getElem?_eq_getElem this]
      exact List.getElem_mem this
    have hSf : faultC es S = 0 := fault_sub hf hSm (by omega)
    have y8 := solve_ok es S true true (by omega) (by omega) (k := k) (by omega)
    rw [answer_made hSf] at y8
    have hSc : closed (nV es) (bds es S) = none := by
      unfold feas at hCf; simpa using hCf
    rw [hSc] at y8
    have hUf : ∀ i, i < c + 1 → (S.eraseIdx i).length = c ∧ ∃ d, answer es (S.eraseIdx i) (fun d => ivs d (1 + nC es) es.length) = (ivs d (1 + nC es) es.length, 0) := fun i hi => by
      refine ⟨by rw [List.length_eraseIdx_of_lt (by omega)]; omega, ?_⟩
      have h1 := hneed i (by omega)
      have h2 : (C.eraseIdx i).map (tieAt ts) = S.eraseIdx i := by
        rw [hS, List.eraseIdx_eq_take_drop_succ, List.eraseIdx_eq_take_drop_succ, List.map_append, List.map_take, List.map_drop]
      rw [h2] at h1
      unfold feas at h1
      obtain ⟨d, hd⟩ := Option.isSome_iff_exists.1 h1
      refine ⟨d, ?_⟩
      rw [answer_made (fault_sub hf (fun t ht => hSm t (List.mem_of_mem_eraseIdx ht)) (Nat.le_trans (List.length_eraseIdx_le _ _) (by omega))), hd]
    simp [hn, hm, hc] at c7 x14
    simp [hn, hSl, ansV] at y8
    clear hneed
    have hcne : ¬ ((c : Int) + 1 = 0) := by omega
    simp -implicitDefEqProofs [c7, c9, tkE, tkT, x14, hcne]
    generalize hx : evLoopC _ _ _ _ _ _ _ _ _ _ = R
    apply loop_gen hx (fun i : Nat => (mkL 97 .junk [(3, .sl 0 0 (n + 1) 3), (4, .sl 1 0 (m + 1) 4), (7, ownV true 2 0 i 4), (45, .sl 3 0 (c + 1) 1), (46, .int .i64 ((c : Int) + 1)), (47, .int .i64 i)],
      [some (.cells (flatE eventE es) false), some (.cells (flatE tieE ts) false), ownB true i (flatE tieE (S.take i)), some (.cells (flatE (intE .i64) L) false)])) (fun i => i ≤ c + 1) (fun i => c + 1 - i) 0
    case hI => simp
    case hq => omega
    case ht => simp -implicitDefEqProofs [liveOf]
    case round =>
      clear hx
      rintro i hi _
      by_cases hlt : i < c + 1
      · have hlt2 : (i : Int) < (c : Int) + 1 := by omega
        have hiC : i < C.length := by omega
        have hiS : i < S.length := by omega
        have e2 : addI .i64 (i : Int) 1 = (i : Int) + 1 := addI_i64 (by omega) (by omega)
        obtain ⟨R9, hd⟩ := hdrop i hiC
        have hq := hClt C[i] (List.getElem_mem hiC)
        have hsi := hSi i hiC hiS
        have hta : tieAt ts C[i] = ts[C[i]] := by unfold tieAt; rw [List.getD_eq_getElem?_getD, List.getElem?_eq_getElem hq]; rfl
        have hat := at_ties ts C[i] hq
        rw [hta] at hsi
        have hst : S.take (i + 1) = S.take i ++ [S[i]] := List.take_succ_eq_append_getElem hiS
        rw [hsi] at hst
        have hSt : (S.take i).length = i := by simp; omega
        have hq0 : ¬ ((C[i] : Nat) : Int) < 0 := by omega
        have hq1 : ((C[i] : Nat) : Int) < (m : Int) + 1 := by omega
        have hq2 : ¬ (m : Int) + 1 ≤ ((C[i] : Nat) : Int) := by omega
        generalize ts[C[i]] = t at *
        generalize C[i] = q at *
        clear hCf hS hSc hSi hSm hUf hClt hdrop
        have hq3 : 4 ≤ (m + 1) * 4 - q * 4 := by omega
        generalize hS0 : S.take i = S0 at *
        cases i with
        | zero =>
          obtain rfl : S0 = [] := List.eq_nil_of_length_eq_zero hSt
          have e2 : addI .i64 0 1 = 1 := addI_i64 (by omega) (by omega)
          have hp : (0 : Int) < (c : Int) + 1 := by omega
          obtain ⟨x, L, rfl⟩ : ∃ x L', L = x :: L' := by
            cases L with
            | nil => simp at hLl
            | cons x L' => exact ⟨x, L', rfl⟩
          have hxq : x = (q : Int) := by simp at hd; exact hd.1
          subst hxq
          simp -implicitDefEqProofs [hp, e2, hat, hq0, hq1, hq2, hq3, hm]
          exact rnd_next 1 (by omega) (by omega) (by simp -implicitDefEqProofs [liveOf, hst, tieE_f])
        | succ p =>
          have hb : (p + 1 + 1) * 32 ≤ 140737488355328 := by omega
          have hlt3 : p < c := by omega
          have hp0 : (0 : Int) ≤ (p : Int) + 1 := by omega
          have e3 : addI .i64 ((p : Int) + 1) 1 = (p : Int) + 1 + 1 := addI_i64 (by omega) (by omega)
          simp -implicitDefEqProofs [hlt2, hlt3, hp0, hd, e2, e3, hat, hq0, hq1, hq2, hq3, hm, hb, hSt]
          exact rnd_next (p + 1 + 1) (by omega) (by omega) (by simp -implicitDefEqProofs [liveOf, hst, hSt, tieE_f])
      · obtain rfl : i = c + 1 := by omega
        have htk : S.take (c + 1) = S := List.take_of_length_le (by omega)
        have tkS : List.take ((c + 1) * 4) (flatE tieE S) = flatE tieE S := by rw [← hSl]; exact take_all_flatE tieE rfl S
        clear hCf hS hSc hSi hSm hClt hdrop
        simp -implicitDefEqProofs [htk, tkE, tkS, y8]
        generalize hx : evLoopC _ _ _ _ _ _ _ _ _ _ = R
        apply loop_gen hx (fun i : Nat => (mkL 97 .junk [(3, .sl 0 0 (n + 1) 3), (7, .sl 1 0 (c + 1) 4), (76, .int .i64 ((c : Int) + 1)), (77, .int .i64 i)],
          [some (.cells (flatE eventE es) false), some (.cells (flatE tieE S) false)])) (fun i => i ≤ c + 1) (fun i => c + 1 - i) 0
        case hI => simp
        case hq => omega
        case ht => simp -implicitDefEqProofs [liveOf]
        case round =>
          clear hx
          rintro i hi _
          by_cases hlt : i < c + 1
          · have hlt2 : (i : Int) < (c : Int) + 1 := by omega
            have e2 : addI .i64 (i : Int) 1 = (i : Int) + 1 := addI_i64 (by omega) (by omega)
            obtain ⟨hUl, d, hU⟩ := hUf i hlt
            have cc := concat_ties [(false, S.take i), (false, S.drop (i + 1))] (by simp) (by simp [catT]; omega) (k := k) (by omega)
            have hcat : catT [(false, S.take i), (false, S.drop (i + 1))] = S.eraseIdx i := by simp [catT, List.eraseIdx_eq_take_drop_succ]
            have u8 := solve_ok es (S.eraseIdx i) true true (by omega) (by omega) (k := k) (by omega)
            rw [hU] at u8
            rw [hcat, hUl] at cc
            have lT : (S.take i).length = i := by simp; omega
            have lD : (S.drop (i + 1)).length = c + 1 - (i + 1) := by simp; omega
            have f1 : List.take (i * 4) (flatE tieE S) = flatE tieE (S.take i) := take_flatE' tieE (n := 4) rfl S i
            have f2 : List.take ((c + 1 - (i + 1)) * 4) (List.drop ((i + 1) * 4) (flatE tieE S)) = flatE tieE (S.drop (i + 1)) := by
              rw [drop_flatE' tieE (n := 4) rfl, List.take_of_length_le (by simp; omega)]
            have lI : (ivs d (1 + nC es) es.length).length = n + 1 := by rw [ivs_length, hn]
            rw [hUl] at u8
            generalize S.eraseIdx i = U at *
            generalize ivs d (1 + nC es) es.length = I at *
            simp [lvT, lT, lD] at cc
            have g1 : (i : Int) ≤ (c : Int) + 1 := by omega
            have g2 : (i : Int) + 1 ≤ (c : Int) + 1 := by omega
            have g3 : i ≤ c := by omega
            have g4 : c + 1 - (i + 1) = c - i := by omega
            rw [g4] at f2
            cases c with
            | zero =>
              obtain rfl : U = [] := List.eq_nil_of_length_eq_zero hUl
              simp [hn, ansV, lI] at u8 cc
              obtain rfl : i = 0 := by omega
              have e2 : addI .i64 0 1 = 1 := addI_i64 (by omega) (by omega)
              simp at f2 cc
              rw [f2] at cc
              simp -implicitDefEqProofs [e2, cc, u8, tkE]
              exact rnd_next 1 (by omega) (by omega) (by simp -implicitDefEqProofs [liveOf])
            | succ r =>
              have tkU : List.take ((r + 1) * 4) (flatE tieE U) = flatE tieE U := by rw [← hUl]; exact take_all_flatE tieE rfl U
              simp [hn, ansV, lI] at u8 cc
              have hlt2 : (i : Int) < (r : Int) + 1 + 1 := by omega
              have g1 : (i : Int) ≤ (r : Int) + 1 + 1 := by omega
              have g2 : (i : Int) + 1 ≤ (r : Int) + 1 + 1 := by omega
              have g5 : i ≤ r + 1 + 1 := by omega
              have g6 : i ≤ r + 1 := by omega
              have g7 : (0 : Int) ≤ (i : Int) + 1 := by omega
              have g8 : r + 1 + 1 - (i + 1) = r + 1 - i := by omega
              simp -implicitDefEqProofs [hlt2, e2, g1, g2, g3, g5, g6, g7, g8, f1, f2, cc, u8, tkE, tkU]
              exact rnd_next (i + 1) (by omega) (by omega) (by simp -implicitDefEqProofs [liveOf])
          · obtain rfl : i = c + 1 := by omega
            simp -implicitDefEqProofs
end Go.Ev.Tryd

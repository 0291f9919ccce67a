/-
  THE CLOCK DOOR SEAT: ClockTight's walk (own work).
-/
import Derived.Test.YtflmadkbppnmcaaDoorDkTa
set_option linter.unusedSimpArgs false
set_option linter.unusedVariables false
set_option maxRecDepth 100000
set_option maxHeartbeats 4000000
namespace Go.Ev.Tryd
open Go Go.Ev Go.Proofs

theorem Made.fault_fix {even : Bool} {E T : List Int} {es : List Event} {ts : List Tie} (h : Made even E T es ts) {K : Nat} (hK : K < es.length) (a : Int) (h1 : -4294967295 ≤ a) (h2 : a ≤ 4294967295) : faultC es (ts ++ [fixT K a]) = 0 := by
  have hf := h.fault
  have hm := h.hm
  unfold faultC at hf ⊢
  split at hf
  · cases hf
  · rename_i hno
    rw [if_neg (by simp; omega)]
    refine firstNZ_all fun x hx => ?_
    have hz := firstNZ_zero hf
    rw [List.map_append, ← List.append_assoc] at hx
    rcases List.mem_append.1 hx with hx | hx
    · exact hz x hx
    · simp at hx
      subst hx
      unfold tieFault fixT
      rw [if_neg (by simp only; omega), if_neg (by simp only; omega), if_neg (by simp only; omega)]

theorem tight_law (l : List Int) (z : Bool) (q : Int) {k : Nat} (hk : 1000 < k) :
    evF Tryd.prog Γ (k + 1) 3 [roV z l.length (flatE (intE .i64) l), .int .i64 q] [] = some (.bool true, []) := by
  obtain ⟨k, rfl⟩ : ∃ j, k = j + 1 := ⟨k - 1, by omega⟩
  obtain ⟨E, T, es, ts, hM, c7⟩ := events_ok l z (k := k) (by omega)
  have hf := hM.fault
  have hr := hM.right
  have hfit := fit hr
  have hn8 := hM.hn
  have hm9 := hM.hm
  have c9 := timed_ok (k := k) (by omega)
  have hnil : es = [] → ts = [] := fun he => by
    subst he
    cases ts with
    | nil => rfl
    | cons t ts => have := hM.tie t (by simp); have h1 := hM.hT; unfold TieP at this; simp at h1; rw [h1] at this; simp at this; omega
  generalize decide (nextN l 2 = 0) = even at *
  have x8 := solve_ok es ts true true (by omega) (by omega) (k := k) (by omega)
  rw [answer_made hf] at x8
  rw [b3 (fun _ _ => rfl) _ _ (by simp)]
  cases hn : es.length with
  | zero =>
    obtain rfl : es = [] := List.eq_nil_of_length_eq_zero hn
    obtain rfl := hnil rfl
    have hc : ∃ d, closed (nV []) (bds [] []) = some d := by
      have := feas_nil hr; unfold feas at this; exact Option.isSome_iff_exists.1 this
    obtain ⟨d, hc⟩ := hc
    rw [hc] at x8
    simp [ansV] at c7 x8
    simp -implicitDefEqProofs [c7, c9, x8]
  | succ n =>
    have hne : es ≠ [] := fun he => by subst he; cases hn
    have tkE : List.take ((n + 1) * 3) (flatE eventE es) = flatE eventE es := by rw [← hn]; exact take_all_flatE eventE rfl es
    have bq := below_ok q ((n : Int) + 1) (by omega) (by omega) (k := k)
    have rq := Int.emod_nonneg q (show (n : Int) + 1 ≠ 0 by omega)
    have rq' := Int.emod_lt_of_pos q (show (0 : Int) < (n : Int) + 1 by omega)
    generalize q % ((n : Int) + 1) = q' at *
    obtain ⟨K, rfl⟩ : ∃ j : Nat, q' = (j : Int) := ⟨q'.toNat, by omega⟩
    have hK : K < es.length := by omega
    have can := fun at_ => can_ok (K := (K : Int)) hr (fun a h1 h2 => hM.fault_fix hK a h1 h2) hn8 hm9 hne at_ (k := k) (by omega)
    have hln : ¬ ((n : Int) + 1 = 0) := by omega
    have key : ∀ d, closed (nV es) (bds es ts) = some d → ∃ lo hi : Int, - d (1 + nC es + K) 0 = lo ∧ d 0 (1 + nC es + K) = hi ∧ lo ≤ hi ∧ -4294967295 ≤ lo ∧ hi ≤ 4294967295 ∧ canB es ts K lo = true ∧ canB es ts K hi = true ∧ canB es ts K (lo + (hi - lo) / 2) = true ∧ canB es ts K (lo - 1) = false ∧ canB es ts K (hi + 1) = false := fun d hc => by
      have c := closed_some hfit hc
      have hv : 1 + nC es + K < nV es := by unfold nV; omega
      have hb : ∀ a, canB es ts K a = decide (-4294967295 ≤ a ∧ a ≤ 4294967295 ∧ - d (1 + nC es + K) 0 ≤ a ∧ a ≤ d 0 (1 + nC es + K)) := fun a => by
        unfold canB
        by_cases h1 : -4294967295 ≤ a
        · by_cases h2 : a ≤ 4294967295
          · rw [tight_fix hr (by omega) hK ⟨h1, h2⟩ hc]; simp [h1, h2]
          · simp [h1, h2]
        · simp [h1]
      have t := c.tri 0 0 _ hfit.pos hfit.pos hv
      have d0 := c.diag 0 hfit.pos
      have dv := c.diag _ hv
      have r1 := c.row 0 hfit.pos _ (hfit.out _ (by omega) hv)
      have r2 := c.row _ hv _ (hfit.back _ (by omega) hv)
      simp only at r1 r2
      refine ⟨_, _, rfl, rfl, by omega, by omega, by omega, ?_, ?_, ?_, ?_, ?_⟩
      · rw [hb]; exact decide_eq_true (by omega)
      · rw [hb]; exact decide_eq_true (by omega)
      · rw [hb]; exact decide_eq_true (by omega)
      · rw [hb]; exact decide_eq_false (by omega)
      · rw [hb]; exact decide_eq_false (by omega)
    cases hc : closed (nV es) (bds es ts) with
    | none =>
      rw [hc] at x8
      cases hm : ts.length with
      | zero =>
        obtain rfl : ts = [] := List.eq_nil_of_length_eq_zero hm
        simp [hn, ansV] at c7 x8
        simp -implicitDefEqProofs [c7, c9, tkE, x8]
      | succ m =>
        have tkT : List.take ((m + 1) * 4) (flatE tieE ts) = flatE tieE ts := by rw [← hm]; exact take_all_flatE tieE rfl ts
        simp [hn, hm, ansV] at c7 x8
        simp -implicitDefEqProofs [c7, c9, tkE, tkT, x8]
    | some d =>
      obtain ⟨lo, hi, k1, k2, hle, hlo, hhi, b1, b2, b3, b4, b5⟩ := key d hc
      rw [hc] at x8
      simp only at x8
      have lB : (ivs d (1 + nC es) es.length).length = n + 1 := by rw [ivs_length, hn]
      obtain ⟨RA, iA⟩ : ∃ R9, List.drop (K * 2) (flatE pairE (ivs d (1 + nC es) es.length)) = .int .i64 lo :: R9 := by
        rw [ivs_drop d _ _ (by omega), k1]; exact ⟨_, rfl⟩
      obtain ⟨RB, iB⟩ : ∃ R9, List.drop (K * 2 + 1) (flatE pairE (ivs d (1 + nC es) es.length)) = .int .i64 hi :: R9 := by
        rw [ivs_drop1 d _ _ (by omega), k2]; exact ⟨_, rfl⟩
      generalize ivs d (1 + nC es) es.length = B at *
      have a1 := can lo
      have a2 := can hi
      have a3 := can (lo + (hi - lo) / 2)
      have a4 := can (lo - 1)
      have a5 := can (hi + 1)
      rw [b1] at a1
      rw [b2] at a2
      rw [b3] at a3
      rw [b4] at a4
      rw [b5] at a5
      have s1 : subI .i64 hi lo = hi - lo := subI_i64 (by omega) (by omega)
      have s2 : addI .i64 lo ((hi - lo) / 2) = lo + (hi - lo) / 2 := addI_i64 (by omega) (by omega)
      have s3 : subI .i64 lo 1 = lo - 1 := subI_i64 (by omega) (by omega)
      have s4 : addI .i64 hi 1 = hi + 1 := addI_i64 (by omega) (by omega)
      have s5 : quoI .i64 (hi - lo) 2 = (hi - lo) / 2 := by rw [quoI_eq, Int.tdiv_eq_ediv_of_nonneg (by omega)]; exact wrap_i64 (by omega) (by omega)
      clear can key b1 b2 b3 b4 b5 k1 k2 hc
      cases hm : ts.length with
      | zero =>
        obtain rfl : ts = [] := List.eq_nil_of_length_eq_zero hm
        simp [hn, ansV, lB] at c7 x8 a1 a2 a3 a4 a5
        simp -implicitDefEqProofs [c7, c9, tkE, x8, hln, bq, iA, iB, rq, rq', a1, a2, a3, a4, a5, s1, s2, s3, s4, s5]
      | succ m =>
        have tkT : List.take ((m + 1) * 4) (flatE tieE ts) = flatE tieE ts := by rw [← hm]; exact take_all_flatE tieE rfl ts
        simp [hn, hm, ansV, lB] at c7 x8 a1 a2 a3 a4 a5
        simp -implicitDefEqProofs [c7, c9, tkE, tkT, x8, hln, bq, iA, iB, rq, rq', a1, a2, a3, a4, a5, s1, s2, s3, s4, s5]
end Go.Ev.Tryd

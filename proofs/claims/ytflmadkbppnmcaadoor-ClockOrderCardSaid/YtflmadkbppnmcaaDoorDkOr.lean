/-
  THE CLOCK DOOR SEAT: ClockOrder's walk (own work).
-/
import Derived.Test.YtflmadkbppnmcaaDoorDkR
import Derived.Test.YtflmadkbppnmcaaDoorDkC7
import Derived.Test.YtflmadkbppnmcaaDoorDkBn
set_option linter.unusedSimpArgs false
set_option linter.unusedVariables false
set_option maxRecDepth 100000
set_option maxHeartbeats 4000000
namespace Go.Ev.Tryd
open Go Go.Ev Go.Proofs

theorem roV_nil : roV true 0 [] = .nils := rfl

/-- What Before returns at made events. -/
theorem before_made {l : List Event} {ties : List Tie} (h : faultC l ties = 0) {a b : Nat} (ha : a < l.length) (hb : b < l.length) :
    beforeR l ties a b = match closed (nV l) (bds l ties) with
      | none => (false, 17)
      | some d => (decide (d (1 + nC l + b) (1 + nC l + a) < 0), 0) := by
  unfold beforeR
  rw [if_pos h, if_neg (show ¬ outside l a b by unfold outside; omega)]
  cases closed (nV l) (bds l ties) <;> simp
theorem answer_made {l : List Event} {ties : List Tie} (h : faultC l ties = 0) (f : Mat → List (Int × Int)) :
    answer l ties f = match closed (nV l) (bds l ties) with
      | none => ([], 17)
      | some d => (f d, 0) := by
  unfold answer
  rw [if_pos h]
  cases closed (nV l) (bds l ties) <;> rfl

theorem ivs_drop (d : Mat) (a c : Nat) {i : Nat} (h : i < c) : List.drop (i * 2) (flatE pairE (ivs d a c)) = .int .i64 (- d (a + i) 0) :: .int .i64 (d 0 (a + i)) :: flatE pairE ((ivs d a c).drop (i + 1)) := by
  have hi : i < (ivs d a c).length := by rw [ivs_length]; exact h
  rw [drop_flatE' pairE (n := 2) rfl, List.drop_eq_getElem_cons hi, flatE_cons, pairE_f]
  have : (ivs d a c)[i] = (- d (a + i) 0, d 0 (a + i)) := by simp [ivs]
  rw [this]; rfl
theorem ivs_drop1 (d : Mat) (a c : Nat) {i : Nat} (h : i < c) : List.drop (i * 2 + 1) (flatE pairE (ivs d a c)) = .int .i64 (d 0 (a + i)) :: flatE pairE ((ivs d a c).drop (i + 1)) := by
  rw [← List.drop_drop, ivs_drop d a c h]; rfl
theorem order_law (l : List Int) (z : Bool) (a b c : Int) {k : Nat} (hk : 1000 < k) :
    evF Tryd.prog Γ (k + 1) 4 [roV z l.length (flatE (intE .i64) l), .int .i64 a, .int .i64 b, .int .i64 c] [] = some (.bool true, []) := by
  obtain ⟨k, rfl⟩ : ∃ j, k = j + 1 := ⟨k - 1, by omega⟩
  obtain ⟨E, T, es, ts, hM, c7⟩ := events_ok l z (k := k) (by omega)
  generalize decide (nextN l 2 = 0) = even at *
  have hf := hM.fault
  have hr := hM.right
  have hfit := fit hr
  have hn8 := hM.hn
  have hm9 := hM.hm
  have c9 := timed_ok (k := k) (by omega)
  rw [b4 (fun _ _ => rfl) _ _ (by simp)]
  cases es with
  | nil =>
    have ht : ts = [] := by
      cases ts with
      | nil => rfl
      | cons t ts => have := hM.tie t (by simp); have h1 := hM.hT; unfold TieP at this; simp at h1; rw [h1] at this; simp at this; omega
    subst ht
    simp at c7
    simp -implicitDefEqProofs [c7, c9]
  | cons e es' =>
    obtain ⟨es, hes'⟩ : ∃ es, es = e :: es' := ⟨_, rfl⟩
    rw [← hes'] at hM hf hr hfit hn8 c7
    obtain ⟨n, hn⟩ : ∃ c, es.length = c + 1 := ⟨es'.length, by rw [hes']; rfl⟩
    clear hes'
    have ba := below_ok a ((n : Int) + 1) (by omega) (by omega) (k := k)
    have bb := below_ok b ((n : Int) + 1) (by omega) (by omega) (k := k)
    have bc := below_ok c ((n : Int) + 1) (by omega) (by omega) (k := k)
    have ra := Int.emod_nonneg a (show (n : Int) + 1 ≠ 0 by omega)
    have ra' := Int.emod_lt_of_pos a (show (0 : Int) < (n : Int) + 1 by omega)
    have rb := Int.emod_nonneg b (show (n : Int) + 1 ≠ 0 by omega)
    have rb' := Int.emod_lt_of_pos b (show (0 : Int) < (n : Int) + 1 by omega)
    have rc := Int.emod_nonneg c (show (n : Int) + 1 ≠ 0 by omega)
    have rc' := Int.emod_lt_of_pos c (show (0 : Int) < (n : Int) + 1 by omega)
    generalize a % ((n : Int) + 1) = a' at *
    generalize b % ((n : Int) + 1) = b' at *
    generalize c % ((n : Int) + 1) = c' at *
    obtain ⟨A, rfl⟩ : ∃ j : Nat, a' = (j : Int) := ⟨a'.toNat, by omega⟩
    obtain ⟨B, rfl⟩ : ∃ j : Nat, b' = (j : Int) := ⟨b'.toNat, by omega⟩
    obtain ⟨C, rfl⟩ : ∃ j : Nat, c' = (j : Int) := ⟨c'.toNat, by omega⟩
    have x1 := before_ok es ts A B true true (by omega) (by omega) (k := k) (by omega)
    have x2 := before_ok es ts B C true true (by omega) (by omega) (k := k) (by omega)
    have x3 := before_ok es ts A C true true (by omega) (by omega) (k := k) (by omega)
    have x4 := before_ok es ts A A true true (by omega) (by omega) (k := k) (by omega)
    have x5 := solve_ok es ts true true (by omega) (by omega) (k := k) (by omega)
    rw [before_made hf (by omega) (by omega)] at x1 x2 x3 x4
    rw [answer_made hf] at x5
    have hne : ¬ ((n : Int) + 1 = 0) := by omega
    have tkE : List.take ((n + 1) * 3) (flatE eventE es) = flatE eventE es := by rw [← hn]; exact take_all_flatE eventE rfl es
    have key : ∀ d, closed (nV es) (bds es ts) = some d → ∃ x y w : Bool, ∃ p q : Int, decide (d (1 + nC es + B) (1 + nC es + A) < 0) = x ∧ decide (d (1 + nC es + C) (1 + nC es + B) < 0) = y ∧ decide (d (1 + nC es + C) (1 + nC es + A) < 0) = w ∧ decide (d (1 + nC es + A) (1 + nC es + A) < 0) = false ∧
        d 0 (1 + nC es + A) = p ∧ - d (1 + nC es + B) 0 = q ∧ (x = true → y = true → w = true) ∧ (x = false → q ≤ p) := fun d hc => by
      have c := closed_some hfit hc
      have hA : 1 + nC es + A < nV es := by unfold nV; omega
      have hB : 1 + nC es + B < nV es := by unfold nV; omega
      have hC : 1 + nC es + C < nV es := by unfold nV; omega
      have t1 := c.tri _ _ _ hC hA hB
      have t2 := c.tri _ _ _ hB hA hfit.pos
      have t3 := c.diag _ hA
      refine ⟨_, _, _, _, _, rfl, rfl, rfl, decide_eq_false (by omega), rfl, rfl, fun h1 h2 => ?_, fun h1 => ?_⟩
      · have h1 := of_decide_eq_true h1
        have h2 := of_decide_eq_true h2
        exact decide_eq_true (by omega)
      · have h1 := of_decide_eq_false h1
        omega
    cases hc : closed (nV es) (bds es ts) with
    | none =>
      rw [hc] at x1 x2 x3 x4 x5
      cases ts with
      | nil =>
        simp [hn] at c7 x1 x2 x3 x4
        simp -implicitDefEqProofs [c7, c9, tkE, ba, bb, bc, x1, x2, x3, x4, hne]
      | cons t ts' =>
        obtain ⟨m, hm⟩ : ∃ c, (t :: ts').length = c + 1 := ⟨ts'.length, rfl⟩
        generalize t :: ts' = ts at *
        have tkT : List.take ((m + 1) * 4) (flatE tieE ts) = flatE tieE ts := by rw [← hm]; exact take_all_flatE tieE rfl ts
        simp [hn, hm] at c7 x1 x2 x3 x4
        simp -implicitDefEqProofs [c7, c9, tkE, tkT, ba, bb, bc, x1, x2, x3, x4, hne]
    | some d =>
      obtain ⟨x, y, w, p, q, k1, k2, k3, k4, k5, k6, k7, k8⟩ := key d hc
      rw [hc] at x1 x2 x3 x4 x5
      simp only [k1, k2, k3, k4] at x1 x2 x3 x4
      simp only at x5
      have hlen : (ivs d (1 + nC es) es.length).length = n + 1 := by rw [ivs_length, hn]
      obtain ⟨I, hI⟩ : ∃ I, I = ivs d (1 + nC es) es.length := ⟨_, rfl⟩
      have iA : ∃ R9, List.drop (A * 2 + 1) (flatE pairE I) = .int .i64 p :: R9 := by
        rw [hI, ivs_drop1 d _ _ (by omega), k5]; exact ⟨_, rfl⟩
      have iB : ∃ R9, List.drop (B * 2) (flatE pairE I) = .int .i64 q :: R9 := by
        rw [hI, ivs_drop d _ _ (by omega), k6]; exact ⟨_, rfl⟩
      obtain ⟨RA, iA⟩ := iA
      obtain ⟨RB, iB⟩ := iB
      rw [← hI] at x5 hlen
      clear k1 k2 k3 k4 k5 k6 hI hc key
      cases ts with
      | nil =>
        simp [hn, ansV, hlen] at c7 x1 x2 x3 x4 x5
        cases x with
        | false =>
          have k8 := k8 rfl
          cases w <;> simp -implicitDefEqProofs [c7, c9, tkE, ba, bb, bc, x1, x2, x3, x4, x5, hne, ra', rb', iA, iB, k8]
        | true =>
          cases y with
          | false => cases w <;> simp -implicitDefEqProofs [c7, c9, tkE, ba, bb, bc, x1, x2, x3, x4, x5, hne, ra', rb', iA, iB]
          | true =>
            obtain rfl : w = true := k7 rfl rfl
            simp -implicitDefEqProofs [c7, c9, tkE, ba, bb, bc, x1, x2, x3, x4, x5, hne, ra', rb', iA, iB]
      | cons t ts' =>
        obtain ⟨m, hm⟩ : ∃ c, (t :: ts').length = c + 1 := ⟨ts'.length, rfl⟩
        generalize t :: ts' = ts at *
        have tkT : List.take ((m + 1) * 4) (flatE tieE ts) = flatE tieE ts := by rw [← hm]; exact take_all_flatE tieE rfl ts
        simp [hn, hm, ansV, hlen] at c7 x1 x2 x3 x4 x5
        cases x with
        | false =>
          have k8 := k8 rfl
          cases w <;> simp -implicitDefEqProofs [c7, c9, tkE, tkT, ba, bb, bc, x1, x2, x3, x4, x5, hne, ra', rb', iA, iB, k8]
        | true =>
          cases y with
          | false => cases w <;> simp -implicitDefEqProofs [c7, c9, tkE, tkT, ba, bb, bc, x1, x2, x3, x4, x5, hne, ra', rb', iA, iB]
          | true =>
            obtain rfl : w = true := k7 rfl rfl
            simp -implicitDefEqProofs [c7, c9, tkE, tkT, ba, bb, bc, x1, x2, x3, x4, x5, hne, ra', rb', iA, iB]
end Go.Ev.Tryd

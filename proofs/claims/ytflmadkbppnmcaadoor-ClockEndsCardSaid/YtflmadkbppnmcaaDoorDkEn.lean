/-
  THE CLOCK DOOR SEAT: ClockEnds' walk (own work).
-/
import Derived.Test.YtflmadkbppnmcaaDoorDkEa
set_option linter.unusedSimpArgs false
set_option linter.unusedVariables false
set_option maxRecDepth 100000
set_option maxHeartbeats 4000000
namespace Go.Ev.Tryd
open Go Go.Ev Go.Proofs

theorem Clo.col {n : Nat} {L : List Bd} {d : Mat} (hf : Fit n L) (c : Clo n L d) : Sol L (fun i => - d i 0) := fun b hb => by
  obtain ⟨h1, h2⟩ := hf.at_ b hb
  have t := c.tri b.f 0 b.t h1 hf.pos h2
  have r := c.row b.f h1 b hb
  have g := c.diag b.f h1
  show - d b.t 0 - - d b.f 0 ≤ b.n
  omega
/-- A solution holds. -/
theorem holds_of_sol {l : List Event} {ties : List Tie} (hr : Right l ties) {x : Nat → Int} (hs : Sol (bds l ties) x) (x0 : x 0 = 0) {E T : List Int} (hE : E.length = nC l) (hT : T.length = l.length)
    (hEx : ∀ q, q < nC l → E.getD q 0 = x (1 + q)) (hTx : ∀ q, q < l.length → T.getD q 0 = x (1 + nC l + q)) : holdsB l ties E T = true := by
  have hf := fit hr
  have hX : ∀ v, v < nV l → (0 :: (E ++ T)).getD v 0 = x v := fun v hv => by
    unfold nV at hv
    match v, hv with
    | 0, _ => exact x0.symm
    | v + 1, hv =>
      show (E ++ T).getD v 0 = _
      rcases Nat.lt_or_ge v (nC l) with h | h
      · rw [List.getD_eq_getElem?_getD, List.getElem?_append_left (by omega), ← List.getD_eq_getElem?_getD, hEx v h, Nat.add_comm]
      · rw [List.getD_eq_getElem?_getD, List.getElem?_append_right (by omega), ← List.getD_eq_getElem?_getD, hE, hTx _ (by omega)]
        congr 1; omega
  rw [← want_eq hr hE hT, Bool.and_eq_true]
  constructor
  · rw [List.all_eq_true]
    intro y hy
    obtain ⟨v, hv, rfl⟩ := List.mem_iff_getElem.1 hy
    have hv' : v < nV l := by unfold nV; simp at hv; omega
    have h1 := hX v hv'
    rw [List.getD_eq_getElem?_getD, List.getElem?_eq_getElem hv] at h1
    simp only [Option.getD_some] at h1
    rw [h1]
    unfold okW
    rcases Nat.eq_zero_or_pos v with h0 | h0
    · subst h0; rw [x0]; decide
    · have a := hs _ (hf.out v h0 hv')
      have b := hs _ (hf.back v h0 hv')
      simp only at a b
      rw [x0] at a b
      have a' : -4294967295 ≤ x v := by omega
      have b' : x v ≤ 4294967295 := by omega
      simp [a', b']
  · rw [List.all_eq_true]
    intro b hb
    obtain ⟨h1, h2⟩ := hf.at_ b hb
    unfold chk
    rw [hX _ h1, hX _ h2]
    exact decide_eq_true (hs b hb)
theorem sels_ivs_getD (d : Mat) (a c : Nat) (s : Bool) {q : Nat} (h : q < c) : (sels s (ivs d a c)).getD q 0 = if s then d 0 (a + q) else - d (a + q) 0 := by
  rw [List.getD_eq_getElem?_getD, List.getElem?_eq_getElem (by simp; exact h)]
  simp only [Option.getD_some]
  cases s <;> simp [sels, ivs, sel]
theorem holds_ends {l : List Event} {ties : List Tie} (h : faultC l ties = 0) {d : Mat} (hc : closed (nV l) (bds l ties) = some d) (s : Bool) :
    holdsR l ties (sels s (ivs d 1 (nC l))) (sels s (ivs d (1 + nC l) l.length)) = (true, 0) := by
  have hr := right_of h
  have hf := fit hr
  have c := closed_some hf hc
  unfold holdsR
  rw [if_pos h, if_pos (by simp)]
  congr 1
  cases s with
  | true => exact holds_of_sol hr (c.row 0 hf.pos) (c.diag 0 hf.pos) (by simp) (by simp) (fun q h => sels_ivs_getD d _ _ true h) (fun q h => sels_ivs_getD d _ _ true h)
  | false => exact holds_of_sol hr (Clo.col hf c) (by have := c.diag 0 hf.pos; show - d 0 0 = 0; omega) (by simp) (by simp) (fun q h => sels_ivs_getD d _ _ false h) (fun q h => sels_ivs_getD d _ _ false h)

theorem ends_law (l : List Int) (z : Bool) {k : Nat} (hk : 1000 < k) :
    evF Tryd.prog Γ (k + 1) 6 [roV z l.length (flatE (intE .i64) l)] [] = some (.bool true, []) := by
  obtain ⟨k, rfl⟩ : ∃ j, k = j + 1 := ⟨k - 1, by omega⟩
  obtain ⟨E, T, es, ts, hM, c7⟩ := events_ok l z (k := k) (by omega)
  have hf := hM.fault
  have hr := hM.right
  have hfit := fit hr
  have hn8 := hM.hn
  have hm9 := hM.hm
  have hnC : nC es ≤ 8 := hM.few
  have c9 := timed_ok (k := k) (by omega)
  have hodd : closed (nV es) (bds es ts) = none → ∃ x l', l = x :: l' ∧ x % 2 = 1 := fun hn => by
    have h1 : ¬ nextN l 2 = 0 := fun h0 => by
      have hM' : Made true E T es ts := by rw [show true = decide (nextN l 2 = 0) by rw [h0]; rfl]; exact hM
      have := hM'.feas
      unfold feas at this
      rw [hn] at this; cases this
    cases l with
    | nil => exact absurd rfl h1
    | cons x l' => exact ⟨x, l', rfl, by simp only [nextN_cons] at h1; omega⟩
  have hnil : es = [] → ts = [] := fun he => by
    subst he
    cases ts with
    | nil => rfl
    | cons t ts => have := hM.tie t (by simp); have h1 := hM.hT; unfold TieP at this; simp at h1; rw [h1] at this; simp at this; omega
  generalize decide (nextN l 2 = 0) = even at *
  have x8 := solve_ok es ts true true (by omega) (by omega) (k := k) (by omega)
  have x16 := errors_ok es ts true true (by omega) (by omega) (k := k) (by omega)
  have x17 := one_ok es ts true true (by omega) (by omega) (k := k) (by omega)
  rw [answer_made hf] at x8 x16
  rw [answer_made hf, answer_made hf] at x17
  cases hc : closed (nV es) (bds es ts) with
  | none =>
    obtain ⟨x, l', rfl, hx⟩ := hodd hc
    have b2 := below_ok x 2 (by omega) (by omega) (k := k)
    rw [hx] at b2
    rw [hc] at x8 x16
    have hne : es ≠ [] := fun he => by
      have ht := hnil he
      subst he; subst ht
      have := feas_nil hr
      unfold feas at this
      rw [hc] at this; cases this
    obtain ⟨n, hn⟩ : ∃ n, es.length = n + 1 := ⟨es.length - 1, by have := List.length_pos_iff.2 hne; omega⟩
    have tkE : List.take ((n + 1) * 3) (flatE eventE es) = flatE eventE es := by rw [← hn]; exact take_all_flatE eventE rfl es
    have hpos : (0 : Int) < (l'.length : Int) + 1 := by omega
    rw [b6 (fun _ _ => rfl) _ _ (by simp)]
    cases hm : ts.length with
    | zero =>
      obtain rfl : ts = [] := List.eq_nil_of_length_eq_zero hm
      simp [hn, ansV] at c7 x8 x16
      simp -implicitDefEqProofs [c7, c9, tkE, x8, x16, b2, hpos, roV_pos]
    | succ m =>
      have tkT : List.take ((m + 1) * 4) (flatE tieE ts) = flatE tieE ts := by rw [← hm]; exact take_all_flatE tieE rfl ts
      simp [hn, hm, ansV] at c7 x8 x16
      simp -implicitDefEqProofs [c7, c9, tkE, tkT, x8, x16, b2, hpos, roV_pos]
  | some d =>
    have h1 := holds_ends hf hc false
    have h2 := holds_ends hf hc true
    rw [hc] at x8 x16 x17
    simp only at x8 x16 x17
    have lA : (ivs d 1 (nC es)).length = nC es := ivs_length _ _ _
    have lB : (ivs d (1 + nC es) es.length).length = es.length := ivs_length _ _ _
    generalize ivs d 1 (nC es) = A at *
    generalize ivs d (1 + nC es) es.length = B at *
    have q1 := holds_ok es ts (sels false A) (sels false B) true true true true (by omega) (by omega) (by simp; omega) (by simp; omega) (k := k) (by omega)
    have q2 := holds_ok es ts (sels true A) (sels true B) true true true true (by omega) (by omega) (by simp; omega) (by simp; omega) (k := k) (by omega)
    rw [h1] at q1
    rw [h2] at q2
    have eA := fun c => ends_ok A true c (by omega) (k := k) (by omega)
    have eB := fun c => ends_ok B true c (by omega) (k := k) (by omega)
    have eA0 := eA false
    have eA1 := eA true
    have eB0 := eB false
    have eB1 := eB true
    have qA := equal_ints (sels false A) (sels false A) true true (by simp; omega) (k := k) (by simp; omega)
    have qB := equal_ints (sels false B) (sels false B) true true (by simp; omega) (k := k) (by simp; omega)
    rw [← sels_false, ← sels_false] at x17
    clear eA eB h1 h2 hodd
    rw [b6 (fun _ _ => rfl) _ _ (by simp)]
    cases hn : es.length with
    | zero =>
      obtain rfl : es = [] := List.eq_nil_of_length_eq_zero hn
      obtain rfl := hnil rfl
      have hA0 : A = [] := List.eq_nil_of_length_eq_zero (by rw [lA]; rfl)
      have hB0 : B = [] := List.eq_nil_of_length_eq_zero (by rw [lB]; rfl)
      subst hA0 hB0
      simp [ansV, oneV, sels] at c7 x8 x16 x17 q1 q2 eA0 eA1 eB0 eB1 qA qB
      simp -implicitDefEqProofs [c7, c9, x8, x16, x17, q1, q2, eA0, eA1, eB0, eB1, qA, qB]
    | succ n =>
      have hne : es ≠ [] := fun he => by subst he; cases hn
      obtain ⟨p, hp⟩ : ∃ p, nC es = p + 1 := ⟨nC es - 1, by have := nC_pos hne; omega⟩
      have tkE : List.take ((n + 1) * 3) (flatE eventE es) = flatE eventE es := by rw [← hn]; exact take_all_flatE eventE rfl es
      have tkA : List.take ((p + 1) * 2) (flatE pairE A) = flatE pairE A := by rw [← hp, ← lA]; exact take_all_flatE pairE rfl A
      have tkB : List.take ((n + 1) * 2) (flatE pairE B) = flatE pairE B := by rw [← hn, ← lB]; exact take_all_flatE pairE rfl B
      have ti : ∀ (c : Bool), List.take (p + 1) (flatE (intE .i64) (sels c A)) = flatE (intE .i64) (sels c A) := fun c => List.take_of_length_le (by simp; omega)
      have tj : ∀ (c : Bool), List.take (n + 1) (flatE (intE .i64) (sels c B)) = flatE (intE .i64) (sels c B) := fun c => List.take_of_length_le (by simp; omega)
      rw [hp] at lA
      rw [hn] at lB
      cases hm : ts.length with
      | zero =>
        obtain rfl : ts = [] := List.eq_nil_of_length_eq_zero hm
        simp [hn, ansV, oneV, lA, lB] at c7 x8 x16 x17 q1 q2 eA0 eA1 eB0 eB1 qA qB
        simp -implicitDefEqProofs [c7, c9, tkE, tkA, tkB, ti, tj, x8, x16, x17, q1, q2, eA0, eA1, eB0, eB1, qA, qB]
      | succ m =>
        have tkT : List.take ((m + 1) * 4) (flatE tieE ts) = flatE tieE ts := by rw [← hm]; exact take_all_flatE tieE rfl ts
        simp [hn, hm, ansV, oneV, lA, lB] at c7 x8 x16 x17 q1 q2 eA0 eA1 eB0 eB1 qA qB
        simp -implicitDefEqProofs [c7, c9, tkE, tkT, tkA, tkB, ti, tj, x8, x16, x17, q1, q2, eA0, eA1, eB0, eB1, qA, qB]
end Go.Ev.Tryd

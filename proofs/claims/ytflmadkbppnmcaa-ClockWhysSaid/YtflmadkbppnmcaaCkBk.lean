/-
  THE CLOCK SEAT: the reference's Culprits, and the law ClockWhys (own work).
-/
import Derived.Test.YtflmadkbppnmcaaCkBj
import Derived.Test.YtflmadkbppnmcaaCkI
set_option linter.unusedSimpArgs false
set_option linter.unusedVariables false
set_option maxRecDepth 100000
set_option maxHeartbeats 4000000
namespace Go.Ev.Try
open Go Go.Ev Go.Proofs

theorem callPlain_tupb {α : Type} {E : Enc α} [E.Own] {call : CallF} {H : Heap} {f c sz : Nat} {l : List α} {b : Bool} {args : List V} (hc : call f (args.map (snap 4 H)) [] = some (.tup [ownV true 0 0 c sz, .bool b], [ownB true c (flatE E l)])) :
    callPlain call H f args = some (.tup [ownV true H.length 0 c sz, .bool b], H ++ [ownB true c (flatE E l)]) := by
  unfold callPlain
  rw [hc]
  cases c <;> simp
theorem ranges_shape (l : List Event) (ties : List Tie) : ∃ L : List (Int × Int), rangesV l ties = some (.tup [ownV true 0 0 L.length 2, .bool (feas l ties)], [ownB true L.length (flatE pairE L)]) := by
  unfold rangesV feas
  cases closed (nV l) (bds l ties) with
  | none => exact ⟨[], by simp⟩
  | some d => exact ⟨ivs d 1 (nV l - 1), by simp⟩
def outF (l : List Event) (ties : List Tie) (p : Nat) : Nat → Bool := fun j => decide (j < p) && !keepB l ties j
theorem outF_next (l : List Event) (ties : List Tie) (p : Nat) : upd (outF l ties p) p (!keepB l ties p) = outF l ties (p + 1) := by
  funext j
  simp only [upd, outF]
  by_cases h : j = p
  · subst h; simp
  · rw [if_neg h]
    have : decide (j < p + 1) = decide (j < p) := decide_eq_decide.2 ⟨fun h2 => by omega, fun h2 => by omega⟩
    rw [this]
def sel (l : List Event) (ties : List Tie) (p q : Nat) : Bool := q != p && !(outF l ties p q)
def pre (l : List Event) (ties : List Tie) (p j : Nat) : List Tie := ((List.range j).filter (sel l ties p)).map (tieAt ties)
theorem pre_succ (l : List Event) (ties : List Tie) (p j : Nat) : pre l ties p (j + 1) = if sel l ties p j = true then pre l ties p j ++ [tieAt ties j] else pre l ties p j := by
  unfold pre
  rw [List.range_succ, List.filter_append]
  cases h : sel l ties p j <;> simp [h]
theorem pre_len (l : List Event) (ties : List Tie) (p j : Nat) : (pre l ties p j).length ≤ j := by
  unfold pre; rw [List.length_map]; exact Nat.le_trans (List.length_filter_le _ _) (by simp)
theorem pre_all (l : List Event) (ties : List Tie) (p : Nat) (hp : p < ties.length) : pre l ties p ties.length = restT ties (chosen l ties p) p := by
  unfold pre restT
  rw [← rest_filter l ties p hp]; rfl
theorem culprits_ok (l : List Event) (ties : List Tie) (z z2 : Bool) (hr : Right l ties) {k : Nat} (hk : 800 < k) :
    evF Try.prog Γ (k + 1) 17 [roV z l.length (flatE eventE l), roV z2 ties.length (flatE tieE ties)] [] =
      some (ownV true 0 0 (chosen l ties ties.length).length 1, [ownB true (chosen l ties ties.length).length (flatE (intE .i64) (castL (chosen l ties ties.length)))]) := by
  obtain ⟨k, rfl⟩ : ∃ j, k = j + 1 := ⟨k - 1, by omega⟩
  have hT := hr.ht
  have z1 := zeros_bool ties.length
  have hb3 : (ties.length : Int) ≤ 140737488355328 := by omega
  have hf0 : (fun _ => false) = outF l ties 0 := by funext j; simp [outF]
  rw [hf0] at z1
  rw [b17 (fun _ _ => rfl) _ _ (by simp)]
  simp -implicitDefEqProofs [z1, hb3]
  generalize hx : evLoopC _ _ _ _ _ _ _ _ _ _ = R
  apply loop_gen hx (fun (p : Nat) => (mkL 72 .junk [(0, roV z l.length (flatE eventE l)), (1, roV z2 ties.length (flatE tieE ties)), (5, .sl 2 0 ties.length 1), (19, .int .i64 ties.length), (20, .int .i64 p)], [none, none, some (.cells (boolC ties.length (outF l ties p)) true)]))
    (fun p => p ≤ ties.length) (fun p => ties.length - p) 0
  case hI => exact Nat.zero_le _
  case hq => omega
  case ht => simp -implicitDefEqProofs [liveOf]
  case round =>
    rintro p hp _
    clear hx
    have hp : p ≤ ties.length := hp
    by_cases hpl : p < ties.length
    · have hpl2 : (p : Int) < ties.length := by omega
      simp -implicitDefEqProofs [hpl, hpl2]
      generalize hy : evLoopC _ _ _ _ _ _ _ _ _ _ = R2
      apply loop_gen hy (fun (j : Nat) => (mkL 72 .junk [(0, roV z l.length (flatE eventE l)), (1, roV z2 ties.length (flatE tieE ties)), (5, .sl 2 0 ties.length 1), (6, .int .i64 p), (7, ownV true 3 0 (pre l ties p j).length 4), (19, .int .i64 ties.length), (20, .int .i64 p), (23, roV z2 ties.length (flatE tieE ties)), (24, .int .i64 ties.length), (25, .int .i64 j)], [none, none, some (.cells (boolC ties.length (outF l ties p)) true), ownB true (pre l ties p j).length (flatE tieE (pre l ties p j)), none]))
        (fun j => j ≤ ties.length) (fun j => ties.length - j) 0
      case hI => exact Nat.zero_le _
      case hq => omega
      case ht => simp -implicitDefEqProofs [liveOf, pre]
      case round =>
        rintro j hj _
        clear hy
        have hj : j ≤ ties.length := hj
        have hpl3 := pre_len l ties p j
        by_cases hjl : j < ties.length
        · have hjl2 : (j : Int) < ties.length := by omega
          have ms := at_ties ties j hjl
          have h4 : 4 ≤ ties.length * 4 - j * 4 := by omega
          have hta := tieAt_mem hjl
          have hps := pre_succ l ties p j
          have d1 := boolC_drop (outF l ties p) hjl
          have e2 : addI .i64 (j : Int) 1 = (j : Int) + 1 := addI_i64 (by omega) (by omega)
          generalize pre l ties p j = E at *
          by_cases hjp : j = p
          · have hsl : sel l ties p j = false := by simp [sel, hjp]
            rw [if_neg (by rw [hsl]; simp)] at hps
            subst hjp
            cases hEl : E.length with
            | zero =>
              simp -implicitDefEqProofs [hjl, hjl2, ms, h4, e2]
              exact rnd_next (j + 1) hjl (by omega) (by simp -implicitDefEqProofs [liveOf, hps, hEl])
            | succ e =>
              simp -implicitDefEqProofs [hjl, hjl2, ms, h4, e2]
              exact rnd_next (j + 1) hjl (by omega) (by simp -implicitDefEqProofs [liveOf, hps, hEl])
          · have hjp2 : ¬ (j : Int) = (p : Int) := by omega
            cases ho : outF l ties p j with
            | true =>
              have hsl : sel l ties p j = false := by simp [sel, ho]
              rw [if_neg (by rw [hsl]; simp)] at hps
              cases hEl : E.length with
              | zero =>
                simp -implicitDefEqProofs [hjl, hjl2, ms, h4, e2, hjp2, d1, ho]
                exact rnd_next (j + 1) hjl (by omega) (by simp -implicitDefEqProofs [liveOf, hps, hEl])
              | succ e =>
                simp -implicitDefEqProofs [hjl, hjl2, ms, h4, e2, hjp2, d1, ho]
                exact rnd_next (j + 1) hjl (by omega) (by simp -implicitDefEqProofs [liveOf, hps, hEl])
            | false =>
              have hsl : sel l ties p j = true := by simp [sel, ho, hjp]
              rw [if_pos hsl] at hps
              cases hEl : E.length with
              | zero =>
                have hE0 : E = [] := List.length_eq_zero_iff.1 hEl
                subst hE0
                simp -implicitDefEqProofs [hjl, hjl2, ms, h4, e2, hjp2, d1, ho]
                exact rnd_next (j + 1) hjl (by omega) (by simp -implicitDefEqProofs [liveOf, hps, hta, tieE_f])
              | succ e =>
                have h9 : (e + 1 + 1) * 32 ≤ 140737488355328 := by omega
                simp -implicitDefEqProofs [hjl, hjl2, ms, h4, e2, hjp2, d1, ho, h9, hEl]
                exact rnd_next (j + 1) hjl (by omega) (by simp -implicitDefEqProofs [liveOf, hps, hta, tieE_f, hEl])
        · obtain rfl : j = ties.length := by omega
          have hjl2 : ¬ (ties.length : Int) < (ties.length : Int) := by omega
          have hpa := pre_all l ties p hpl
          have hBl := hpl3
          rw [hpa] at hBl
          rw [hpa]
          have hkb : keepB l ties p = feas l (restT ties (chosen l ties p) p) := rfl
          have hrr : Right l (restT ties (chosen l ties p) p) := right_map hr (fun i hi => by
            rcases List.mem_append.1 hi with h | h
            · have := chosen_lt l ties p i h; omega
            · have := List.mem_range'_1.1 h; omega) (by
            have := hBl
            unfold restT at this
            rw [List.length_map] at this
            omega)
          generalize restT ties (chosen l ties p) p = B at *
          have cr := ranges_ok l B z true hrr (k := k) (by omega)
          obtain ⟨L, hL⟩ := ranges_shape l B
          rw [hL, ← hkb] at cr
          generalize hH : ([none, none, some (.cells (boolC ties.length (outF l ties p)) true), ownB true B.length (flatE tieE B), none] : Heap) = H
          have hmap : ([roV z l.length (flatE eventE l), ownV true 3 0 B.length 4] : List V).map (snap 4 H) = [roV z l.length (flatE eventE l), roV true B.length (flatE tieE B)] := by
            rw [← hH]
            have hta : List.take (B.length * 4) (flatE tieE B) = flatE tieE B := List.take_of_length_le (by simp)
            cases hBl2 : B.length with
            | zero => simp
            | succ q => rw [hBl2] at hta; simp [hta]
          have cp := callPlain_tupb (E := pairE) (call := evF Try.prog Γ (k + 1)) (H := H) (f := 15) (args := [roV z l.length (flatE eventE l), ownV true 3 0 B.length 4]) (by rw [hmap]; exact cr)
          have hw := boolC_set (outF l ties p) hpl (!keepB l ties p)
          rw [outF_next] at hw
          have hp3 : p + 1 ≤ ties.length := hpl
          have e2 : addI .i64 (p : Int) 1 = (p : Int) + 1 := addI_i64 (by omega) (by omega)
          simp -implicitDefEqProofs [hjl2, hH, cp, hpl, hpl2, -callPlain]
          subst hH
          simp -implicitDefEqProofs [hp3, hw, e2]
          exact rnd_next (p + 1) hpl (by omega) (by simp -implicitDefEqProofs [liveOf])
    · obtain rfl : p = ties.length := by omega
      have hpl2 : ¬ (ties.length : Int) < (ties.length : Int) := by omega
      simp -implicitDefEqProofs [hpl2]
      generalize hy : evLoopC _ _ _ _ _ _ _ _ _ _ = R2
      apply loop_gen hy (fun (q : Nat) => (mkL 72 .junk [(12, ownV true 0 0 (chosen l ties q).length 1), (57, .sl 1 0 ties.length 1), (58, .int .i64 ties.length), (59, .int .i64 q)], [ownB true (chosen l ties q).length (flatE (intE .i64) (castL (chosen l ties q))), some (.cells (boolC ties.length (outF l ties ties.length)) true)]))
        (fun q => q ≤ ties.length) (fun q => ties.length - q) 0
      case hI => exact Nat.zero_le _
      case hq => omega
      case ht => simp -implicitDefEqProofs [liveOf, chosen]
      case round =>
        rintro q hq _
        clear hy
        have hq : q ≤ ties.length := hq
        by_cases hql : q < ties.length
        · have hql2 : (q : Int) < ties.length := by omega
          have d1 := boolC_drop (outF l ties ties.length) hql
          have hof : outF l ties ties.length q = !keepB l ties q := by simp [outF, hql]
          have e2 : addI .i64 (q : Int) 1 = (q : Int) + 1 := addI_i64 (by omega) (by omega)
          have hcl := chosen_len l ties q
          rw [hof] at d1
          have hc : chosen l ties (q + 1) = if keepB l ties q = true then chosen l ties q ++ [q] else chosen l ties q := rfl
          cases hkq : keepB l ties q with
          | true =>
            rw [if_pos hkq] at hc
            rw [hkq] at d1
            cases hCl : (chosen l ties q).length with
            | zero =>
              have hC0 : chosen l ties q = [] := List.length_eq_zero_iff.1 hCl
              simp -implicitDefEqProofs [hql, hql2, d1, e2]
              exact rnd_next (q + 1) hql (by omega) (by simp -implicitDefEqProofs [liveOf, hc, hC0, castL])
            | succ e =>
              have h9 : (e + 1 + 1) * 8 ≤ 140737488355328 := by omega
              have hcast : castL (chosen l ties q ++ [q]) = castL (chosen l ties q) ++ [(q : Int)] := by simp [castL]
              simp -implicitDefEqProofs [hql, hql2, d1, e2, hCl, h9]
              exact rnd_next (q + 1) hql (by omega) (by simp -implicitDefEqProofs [liveOf, hc, hCl, hcast])
          | false =>
            rw [if_neg (by rw [hkq]; simp)] at hc
            rw [hkq] at d1
            cases hCl : (chosen l ties q).length with
            | zero =>
              simp -implicitDefEqProofs [hql, hql2, d1, e2]
              exact rnd_next (q + 1) hql (by omega) (by simp -implicitDefEqProofs [liveOf, hc, hCl])
            | succ e =>
              simp -implicitDefEqProofs [hql, hql2, d1, e2]
              exact rnd_next (q + 1) hql (by omega) (by simp -implicitDefEqProofs [liveOf, hc, hCl])
        · obtain rfl : q = ties.length := by omega
          cases hCl : (chosen l ties ties.length).length <;> simp -implicitDefEqProofs [hpl2]

theorem whys_ok (l : List Event) (ties : List Tie) (z z2 : Bool) (N : Nat) (hN : N ≤ 9223372036854775000) (hz : ∀ x ∈ l, x.clock.size ≤ N) (hl : l.length ≤ 8796093022206) (ht : ties.length ≤ 8796093022206) {k : Nat} (hk : N + l.length + 1000 < k) :
    evF Try.prog Γ (k + 1) 4 [roV z l.length (flatE eventE l), roV z2 ties.length (flatE tieE ties)] [] = some (.bool true, []) := by
  obtain ⟨k, rfl⟩ : ∃ j, k = j + 1 := ⟨k - 1, by omega⟩
  have c0 := timed_ok (k := k) (by omega)
  have c1 := why_ok l ties z z2 hl ht (k := k) (by omega)
  have c4 := fault_ok l ties z z2 N hN hz hl ht (k := k) (by omega)
  unfold whyV at c1
  rw [b4 (fun _ _ => rfl) _ _ (by simp)]
  by_cases hf : faultC l ties = 0
  · have hr := right_of hf
    have c5 := ranges_ok l ties z z2 hr (k := k) (by omega)
    have c6 := culprits_ok l ties z z2 hr (k := k) (by omega)
    obtain ⟨L, hL⟩ := ranges_shape l ties
    rw [hL] at c5
    rw [if_pos hf] at c1
    rw [hf] at c4
    cases hfs : feas l ties with
    | true =>
      rw [if_pos hfs] at c1
      rw [hfs] at c5
      cases hLl : L.length with
      | zero => rw [hLl] at c5; simp at c5; simp -implicitDefEqProofs [c0, c1, c4, c5]
      | succ a => rw [hLl] at c5; simp at c5; simp -implicitDefEqProofs [c0, c1, c4, c5]
    | false =>
      rw [if_neg (by rw [hfs]; simp)] at c1
      rw [hfs] at c5
      have hL0 : L = [] := by
        have := hL
        unfold rangesV at this
        unfold feas at hfs
        cases hc : closed (nV l) (bds l ties) with
        | none =>
          rw [hc] at this
          have h2 := this
          cases hLl : L.length with
          | zero => exact List.length_eq_zero_iff.1 hLl
          | succ a => rw [hLl] at this; simp at this
        | some d => rw [hc] at hfs; cases hfs
      subst hL0
      simp at c5
      have hcl := chosen_len l ties ties.length
      have hT := hr.ht
      by_cases h0 : ties.length = 0
      · rw [if_pos h0] at c1
        have hch : chosen l ties ties.length = [] := List.length_eq_zero_iff.1 (by omega)
        rw [hch] at c6
        have q1 := equal_ints [] [] true true (by simp) (k := k) (by simp; omega)
        simp [castL] at c6 q1
        simp -implicitDefEqProofs [c0, c1, c4, c5, c6, q1]
      · rw [if_neg h0] at c1
        generalize chosen l ties ties.length = C at *
        generalize hzz : List.replicate (ties.length - C.length) (0 : Int) = Z at *
        have hta : List.take C.length (flatE (intE .i64) (castL C ++ Z)) = flatE (intE .i64) (castL C) := by
          rw [take_flatE1 (intE .i64) rfl, List.take_append_of_le_length (by simp), List.take_of_length_le (by simp)]
        have htb : List.take C.length (flatE (intE .i64) (castL C)) = flatE (intE .i64) (castL C) := List.take_of_length_le (by simp)
        have q1 := equal_ints (castL C) (castL C) false true (by simp; omega) (k := k) (by simp; omega)
        rw [castL_length] at q1
        cases hCl : C.length with
        | zero =>
          rw [hCl] at c1 c6 hta htb q1
          have hC0 : C = [] := List.length_eq_zero_iff.1 hCl
          subst hC0
          simp [castL] at c1 c6 hta htb q1
          simp -implicitDefEqProofs [c0, c1, c4, c5, c6, q1, hta, htb]
        | succ c =>
          rw [hCl] at c1 c6 hta htb q1
          simp at c1 c6 hta htb q1
          simp -implicitDefEqProofs [c0, c1, c4, c5, c6, q1, hta, htb]
  · rw [if_neg hf] at c1
    simp -implicitDefEqProofs [c0, c1, c4, hf]
end Go.Ev.Try

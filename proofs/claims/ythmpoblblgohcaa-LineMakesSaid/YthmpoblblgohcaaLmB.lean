/-
  THE LINE SEAT: markLess, Check and LineFault for all marks (own work).
-/
import Derived.Test.YthmpoblblgohcaaLmP
import Derived.Test.YthmpoblblgohcaaLmA
set_option linter.unusedSimpArgs false
set_option linter.unusedVariables false
set_option maxRecDepth 100000
set_option maxHeartbeats 4000000
namespace Go.Ev.Try
open Go Go.Ev Go.Proofs

theorem bld76 (x y : Int) : buildV Try.prog 76 [(0, V.int .i64 x), (1, V.int .i64 y)] = some (.agg [.int .i64 x, .int .i64 y]) := by kernel_rfl
/-- The first i parts are alike. -/
def alike (a b : Mark) (i : Nat) : Prop := i ≤ 3 ∧ (0 < i → a.low = b.low) ∧ (1 < i → a.high = b.high) ∧ (2 < i → a.id = b.id)
theorem markLess_ok (a b : Mark) {k : Nat} (hk : 20 < k) : evF Try.prog Γ (k + 1) 42 [.agg (markE.f a), .agg (markE.f b)] [] = some (.int .i64 (cmpM a b), []) := by
  obtain ⟨k, rfl⟩ : ∃ j, k = j + 2 := ⟨k - 2, by omega⟩
  have c := fun a b => cmp_ok a b (k := k)
  have e1 : addI .i64 0 1 = 1 := addI_i64 (by omega) (by omega)
  have e2 : addI .i64 1 1 = 2 := addI_i64 (by omega) (by omega)
  have e3 : addI .i64 2 1 = 3 := addI_i64 (by omega) (by omega)
  rw [b42 (fun _ _ => rfl) _ _ (by simp)]
  simp -implicitDefEqProofs [markE_f, bld76]
  generalize hx : evLoopC _ _ _ _ _ _ _ _ _ _ = R
  apply loop_gen hx (fun i : Nat => (mkL 39 .junk [(22, .sl 0 0 3 2), (23, .int .i64 3), (24, .int .i64 i)], [some (.cells [.int .i64 a.low, .int .i64 b.low, .int .i64 a.high, .int .i64 b.high, .int .i64 a.id, .int .i64 b.id] true)]))
    (alike a b) (fun i => 3 - i) 0
  case hI => exact ⟨by omega, fun h => by omega, fun h => by omega, fun h => by omega⟩
  case hq => omega
  case ht => simp -implicitDefEqProofs [liveOf]
  case round =>
    rintro i ⟨hi, h0, h1, h2⟩ _
    clear hx
    have : i = 0 ∨ i = 1 ∨ i = 2 ∨ i = 3 := by omega
    rcases this with rfl | rfl | rfl | rfl
    · by_cases hl : a.low = b.low
      · simp -implicitDefEqProofs [hl, e1]
        exact rnd_next 1 ⟨by omega, fun _ => hl, fun h => by omega, fun h => by omega⟩ (by omega) (by simp -implicitDefEqProofs [liveOf, hl])
      · have hz : ¬ cmpI a.low b.low = 0 := mt (cmpI_zero _ _).1 hl
        simp -implicitDefEqProofs [hl, c, cmpM, orI3, hz]
    · have hl := h0 (by omega)
      by_cases hh : a.high = b.high
      · simp -implicitDefEqProofs [hh, e2]
        exact rnd_next 2 ⟨by omega, fun _ => hl, fun _ => hh, fun h => by omega⟩ (by omega) (by simp -implicitDefEqProofs [liveOf, hh])
      · have hz : ¬ cmpI a.high b.high = 0 := mt (cmpI_zero _ _).1 hh
        have hz0 : cmpI a.low b.low = 0 := (cmpI_zero _ _).2 hl
        simp -implicitDefEqProofs [hh, c, cmpM, orI3, hz, hz0]
    · have hl := h0 (by omega)
      have hh := h1 (by omega)
      by_cases hd : a.id = b.id
      · simp -implicitDefEqProofs [hd, e3]
        exact rnd_next 3 ⟨by omega, fun _ => hl, fun _ => hh, fun _ => hd⟩ (by omega) (by simp -implicitDefEqProofs [liveOf, hd])
      · have hz : ¬ cmpI a.id b.id = 0 := mt (cmpI_zero _ _).1 hd
        have hz0 : cmpI a.low b.low = 0 := (cmpI_zero _ _).2 hl
        have hz1 : cmpI a.high b.high = 0 := (cmpI_zero _ _).2 hh
        simp -implicitDefEqProofs [hd, c, cmpM, orI3, hz, hz0, hz1]
    · have hl := (cmpI_zero _ _).2 (h0 (by omega))
      have hh := (cmpI_zero _ _).2 (h1 (by omega))
      have hd := (cmpI_zero _ _).2 (h2 (by omega))
      simp -implicitDefEqProofs [cmpM, orI3, hl, hh, hd]

theorem check_any (l : List Mark) (z : Bool) {k : Nat} (hk : 1000 < k) :
    evF Try.prog Γ (k + 1) 23 [roV z l.length (flatE markE l)] [] = some (.int .i64 (faultM l), []) := by
  obtain ⟨k, rfl⟩ : ∃ j, k = j + 1 := ⟨k - 1, by omega⟩
  have c := fun a b => cmpM_ok a b (k := k) (by omega)
  simp only [markE_f] at c
  rw [b23 (fun _ _ => rfl) _ _ (by simp)]
  by_cases hl : 400 < l.length
  · have h400 : (400 : Int) < l.length := by omega
    simp -implicitDefEqProofs [h400, faultM_large hl]
  have h400 : ¬ (400 : Int) < l.length := by omega
  rw [faultM_small (by omega)]
  simp -implicitDefEqProofs [h400]
  generalize hx : evLoopC _ _ _ _ _ _ _ _ _ _ = R
  apply loop_gen hx (fun i : Nat => (mkL 43 .junk [(0, roV z l.length (flatE markE l)), (8, roV z l.length (flatE markE l)), (9, .int .i64 l.length), (10, .int .i64 i)], [none, none])) (fun i => i ≤ l.length ∧ faultGo (prevM l i) (l.drop i) = faultGo none l) (fun i => l.length - i) 0
  case hI => simp
  case hq => omega
  case ht => simp -implicitDefEqProofs [liveOf]
  case round =>
    rintro i ⟨hi, hG⟩ _
    clear hx
    by_cases hlt : i < l.length
    · have e2 : addI .i64 (i : Int) 1 = (i : Int) + 1 := addI_i64 (by omega) (by omega)
      have hA := faultGo_at l i hlt
      rw [hG] at hA
      by_cases q1 : l[i].low < -4294967295
      · have hf : faultStep (prevM l i) l[i] = 21 := if_pos (.inl q1)
        rw [hf] at hA
        have mx := at_marks l i hlt
        have b0 : (i : Int) < l.length := by omega
        generalize l[i] = x at *
        simp -implicitDefEqProofs [hlt, b0, mx, e2, markE_f, q1, hA]
      by_cases q2 : 4294967295 < l[i].high
      · have hf : faultStep (prevM l i) l[i] = 21 := if_pos (.inr (.inl q2))
        rw [hf] at hA
        have mx := at_marks l i hlt
        have b0 : (i : Int) < l.length := by omega
        generalize l[i] = x at *
        simp -implicitDefEqProofs [hlt, b0, mx, e2, markE_f, q1, q2, hA]
      by_cases q3 : l[i].high < l[i].low
      · have hf : faultStep (prevM l i) l[i] = 21 := if_pos (.inr (.inr q3))
        rw [hf] at hA
        have mx := at_marks l i hlt
        have b0 : (i : Int) < l.length := by omega
        generalize l[i] = x at *
        simp -implicitDefEqProofs [hlt, b0, mx, e2, markE_f, q1, q2, q3, hA]
      have hf : faultStep (prevM l i) l[i] = match prevM l i with | none => 0 | some q => if less q l[i] then 0 else 11 := if_neg (by omega)
      cases i with
      | zero =>
        rw [prevM_zero] at hf hA
        simp only at hf
        rw [hf, if_pos rfl] at hA
        have b0 : (0 : Int) < l.length := by omega
        have b0' : 0 < l.length := hlt
        have b1 : ¬ l.length = 0 := by omega
        have m0 : List.take 3 (flatE markE l) = [.int .i64 l[0].id, .int .i64 l[0].low, .int .i64 l[0].high] := by
          have h := at_marks l 0 hlt
          rw [Nat.zero_mul, List.drop_zero] at h
          exact h
        have e9 : addI .i64 0 1 = 1 := addI_i64 (by omega) (by omega)
        simp -implicitDefEqProofs [hlt, b0, b0', b1, m0, e2, e9, markE_f, q1, q2, q3]
        exact rnd_next 1 ⟨by omega, hA.symm⟩ (by omega) (by simp -implicitDefEqProofs [liveOf])
      | succ p =>
        have hp : p < l.length := by omega
        rw [prevM_succ l p hp] at hf hA
        simp only at hf
        have e3 : subI .i64 ((p : Int) + 1) 1 = (p : Int) := by rw [subI_i64 (by omega) (by omega)]; omega
        have e4 : addI .i64 ((p : Int) + 1) 1 = (p : Int) + 1 + 1 := addI_i64 (by omega) (by omega)
        have e5 : (0 : Int) < (p : Int) + 1 := by omega
        have e6 : (0 : Int) ≤ (p : Int) + 1 := by omega
        have b1 : (p : Int) + 1 < l.length := by omega
        have b2 : (p : Int) < l.length := by omega
        have my := at_marks l p hp
        have mx := at_marks l (p + 1) hlt
        cases hlss : less l[p] l[p + 1] with
        | true =>
          rw [hf, hlss, if_pos rfl, if_pos rfl] at hA
          rw [← cmpM_less] at hlss
          have hc : ¬ 0 ≤ cmpM l[p] l[p + 1] := by have := of_decide_eq_true hlss; omega
          simp -implicitDefEqProofs [hlt, hp, e3, e4, e5, e6, b1, b2, my, mx, markE_f, q1, q2, q3, c, hc]
          exact rnd_next (p + 1 + 1) ⟨by omega, hA.symm⟩ (by omega) (by simp -implicitDefEqProofs [liveOf])
        | false =>
          rw [hf, hlss, if_neg (by simp), if_neg (by simp)] at hA
          rw [← cmpM_less] at hlss
          have hc : 0 ≤ cmpM l[p] l[p + 1] := by have := of_decide_eq_false hlss; omega
          simp -implicitDefEqProofs [hlt, hp, e3, e4, e5, e6, b1, b2, my, mx, markE_f, q1, q2, q3, c, hc, hA]
    · have hi' : i = l.length := by omega
      subst hi'
      rw [List.drop_length] at hG
      simp -implicitDefEqProofs [← hG, faultGo]

theorem fault_any (l : List Mark) (z : Bool) {k : Nat} (hk : 1000 < k) :
    evF Try.prog Γ (k + 1) 24 [roV z l.length (flatE markE l)] [] = some (.int .i64 (faultM l), []) := by
  obtain ⟨k, rfl⟩ : ∃ j, k = j + 1 := ⟨k - 1, by omega⟩
  have c := fun a b => markLess_ok a b (k := k) (by omega)
  simp only [markE_f] at c
  rw [b24 (fun _ _ => rfl) _ _ (by simp)]
  by_cases hl : 400 < l.length
  · have h400 : (400 : Int) < l.length := by omega
    simp -implicitDefEqProofs [h400, faultM_large hl]
  have h400 : ¬ (400 : Int) < l.length := by omega
  rw [faultM_small (by omega)]
  simp -implicitDefEqProofs [h400]
  generalize hx : evLoopC _ _ _ _ _ _ _ _ _ _ = R
  apply loop_gen hx (fun i : Nat => (mkL 43 .junk [(0, roV z l.length (flatE markE l)), (8, roV z l.length (flatE markE l)), (9, .int .i64 l.length), (10, .int .i64 i)], [none, none])) (fun i => i ≤ l.length ∧ faultGo (prevM l i) (l.drop i) = faultGo none l) (fun i => l.length - i) 0
  case hI => simp
  case hq => omega
  case ht => simp -implicitDefEqProofs [liveOf]
  case round =>
    rintro i ⟨hi, hG⟩ _
    clear hx
    by_cases hlt : i < l.length
    · have e2 : addI .i64 (i : Int) 1 = (i : Int) + 1 := addI_i64 (by omega) (by omega)
      have hA := faultGo_at l i hlt
      rw [hG] at hA
      by_cases q1 : l[i].low < -4294967295
      · have hf : faultStep (prevM l i) l[i] = 21 := if_pos (.inl q1)
        rw [hf] at hA
        have mx := at_marks l i hlt
        have b0 : (i : Int) < l.length := by omega
        generalize l[i] = x at *
        simp -implicitDefEqProofs [hlt, b0, mx, e2, markE_f, q1, hA]
      by_cases q2 : 4294967295 < l[i].high
      · have hf : faultStep (prevM l i) l[i] = 21 := if_pos (.inr (.inl q2))
        rw [hf] at hA
        have mx := at_marks l i hlt
        have b0 : (i : Int) < l.length := by omega
        have q2' : 4294967296 ≤ l[i].high := by omega
        generalize l[i] = x at *
        simp -implicitDefEqProofs [hlt, b0, mx, e2, markE_f, q1, q2', hA]
      have q2' : ¬ 4294967296 ≤ l[i].high := by omega
      by_cases q3 : l[i].high < l[i].low
      · have hf : faultStep (prevM l i) l[i] = 21 := if_pos (.inr (.inr q3))
        rw [hf] at hA
        have mx := at_marks l i hlt
        have b0 : (i : Int) < l.length := by omega
        generalize l[i] = x at *
        simp -implicitDefEqProofs [hlt, b0, mx, e2, markE_f, q1, q2', q3, hA]
      have hf : faultStep (prevM l i) l[i] = match prevM l i with | none => 0 | some q => if less q l[i] then 0 else 11 := if_neg (by omega)
      cases i with
      | zero =>
        rw [prevM_zero] at hf hA
        simp only at hf
        rw [hf, if_pos rfl] at hA
        have b0 : (0 : Int) < l.length := by omega
        have b0' : 0 < l.length := hlt
        have b1 : ¬ l.length = 0 := by omega
        have m0 : List.take 3 (flatE markE l) = [.int .i64 l[0].id, .int .i64 l[0].low, .int .i64 l[0].high] := by
          have h := at_marks l 0 hlt
          rw [Nat.zero_mul, List.drop_zero] at h
          exact h
        have e9 : addI .i64 0 1 = 1 := addI_i64 (by omega) (by omega)
        simp -implicitDefEqProofs [hlt, b0, b0', b1, m0, e2, e9, markE_f, q1, q2', q3]
        exact rnd_next 1 ⟨by omega, hA.symm⟩ (by omega) (by simp -implicitDefEqProofs [liveOf])
      | succ p =>
        have hp : p < l.length := by omega
        rw [prevM_succ l p hp] at hf hA
        simp only at hf
        have e3 : subI .i64 ((p : Int) + 1) 1 = (p : Int) := by rw [subI_i64 (by omega) (by omega)]; omega
        have e4 : addI .i64 ((p : Int) + 1) 1 = (p : Int) + 1 + 1 := addI_i64 (by omega) (by omega)
        have e5 : (0 : Int) < (p : Int) + 1 := by omega
        have e6 : (0 : Int) ≤ (p : Int) + 1 := by omega
        have b1 : (p : Int) + 1 < l.length := by omega
        have b2 : (p : Int) < l.length := by omega
        have my := at_marks l p hp
        have mx := at_marks l (p + 1) hlt
        have hcn := cmpM_neg l[p] l[p + 1]
        cases hlss : less l[p] l[p + 1] with
        | true =>
          rw [hf, hlss, if_pos rfl, if_pos rfl] at hA
          have hc : cmpM l[p] l[p + 1] = -1 := hcn.2 hlss
          simp -implicitDefEqProofs [hlt, hp, e3, e4, e5, e6, b1, b2, my, mx, markE_f, q1, q2', q3, c, hc]
          exact rnd_next (p + 1 + 1) ⟨by omega, hA.symm⟩ (by omega) (by simp -implicitDefEqProofs [liveOf])
        | false =>
          rw [hf, hlss, if_neg (by simp), if_neg (by simp)] at hA
          have hc : ¬ cmpM l[p] l[p + 1] = -1 := fun h => by rw [hcn, hlss] at h; cases h
          simp -implicitDefEqProofs [hlt, hp, e3, e4, e5, e6, b1, b2, my, mx, markE_f, q1, q2', q3, c, hc, hA]
    · have hi' : i = l.length := by omega
      subst hi'
      rw [List.drop_length] at hG
      simp -implicitDefEqProofs [← hG, faultGo]
end Go.Ev.Try

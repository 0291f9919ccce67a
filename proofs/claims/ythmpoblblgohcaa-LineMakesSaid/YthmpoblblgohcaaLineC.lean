/-
  THE LINE SEAT: Compact (own work).
-/
import Derived.Test.YthmpoblblgohcaaLineB
set_option linter.unusedSimpArgs false
set_option linter.unusedVariables false
set_option maxRecDepth 100000
set_option maxHeartbeats 4000000
namespace Go.Ev.Try
open Go Go.Ev Go.Proofs

theorem guard35 : Try.prog.eqGuardType Try.prog.depth 35 = false := by kernel_rfl
theorem stood35 : Try.prog.stoodInHeld 35 = false := by kernel_rfl
theorem eqI_int (k : IntKind) (a b : Int) : eqI (.int k a) (.int k b) = some (decide (a = b)) := by
  show (if k = k then some (a == b) else none) = _
  rw [if_pos rfl]; by_cases h : a = b <;> simp [h]
theorem eqv_mark (a b : Mark) : eqV Try.prog 10000 35 (.agg [.int .i64 a.id, .int .i64 a.low, .int .i64 a.high]) (.agg [.int .i64 b.id, .int .i64 b.low, .int .i64 b.high]) = some (decide (a = b)) := by
  obtain ⟨a1, a2, a3⟩ := a
  obtain ⟨b1, b2, b3⟩ := b
  rw [show (10000 : Nat) = 9998 + 1 + 1 from rfl]
  by_cases h1 : a1 = b1 <;> by_cases h2 : a2 = b2 <;> by_cases h3 : a3 = b3 <;>
    simp [eqV, eqFields, aggOf, partV, stood35, eqI_int, h1, h2, h3]
theorem eq_mark (a b : Mark) : evBin Try.prog .eql 35 (.agg [.int .i64 a.id, .int .i64 a.low, .int .i64 a.high]) (.agg [.int .i64 b.id, .int .i64 b.low, .int .i64 b.high]) = some (.bool (decide (a = b))) := by
  simp only [evBin, noNumV, aggOf, guard35, Option.isNone_some, Bool.false_or, Bool.not_false, Bool.and_self, if_true, eqv_mark, Option.map_some]
theorem ne_mark (a b : Mark) : evBin Try.prog .neq 35 (.agg [.int .i64 a.id, .int .i64 a.low, .int .i64 a.high]) (.agg [.int .i64 b.id, .int .i64 b.low, .int .i64 b.high]) = some (.bool (!decide (a = b))) := by
  simp only [evBin, noNumV, aggOf, guard35, Option.isNone_some, Bool.false_or, Bool.not_false, Bool.and_self, if_true, eqv_mark, Option.map_some]

/-! ### Neighbours alike struck -/
def dstep (out : List Mark) (x : Mark) : List Mark := if out.getLast? = some x then out else out ++ [x]
def dedup (l : List Mark) : List Mark := l.foldl dstep []
theorem dstep_last (out : List Mark) (x : Mark) : (dstep out x).getLast? = some x := by
  unfold dstep; split
  · assumption
  · simp
theorem dedup_snoc0 (l : List Mark) (x : Mark) : dedup (l ++ [x]) = dstep (dedup l) x := by simp [dedup]
theorem dedup_last (l : List Mark) : (dedup l).getLast? = l.getLast? := by
  rcases List.eq_nil_or_concat l with rfl | ⟨L, x, rfl⟩
  · rfl
  · rw [List.concat_eq_append, dedup_snoc0, dstep_last]; simp
theorem dedup_snoc (l : List Mark) (x : Mark) : dedup (l ++ [x]) = if l.getLast? = some x then dedup l else dedup l ++ [x] := by
  rw [dedup_snoc0, dstep, dedup_last]
theorem dedup_succ (l : List Mark) (p : Nat) (h : p + 1 < l.length) : dedup (l.take (p + 2)) = if l[p + 1] = l[p] then dedup (l.take (p + 1)) else dedup (l.take (p + 1)) ++ [l[p + 1]] := by
  rw [List.take_succ_eq_append_getElem h, dedup_snoc]
  have : (l.take (p + 1)).getLast? = some l[p] := by
    rw [List.take_succ_eq_append_getElem (by omega : p < l.length), List.getLast?_append]; rfl
  rw [this]
  by_cases he : l[p + 1] = l[p]
  · rw [if_pos he, if_pos (by rw [he])]
  · rw [if_neg he, if_neg (fun h => he (Option.some.inj h).symm)]
def mark0 : Mark := ⟨0, 0, 0⟩
theorem zeros_marks (n : Nat) : zerosV [.int .i64 0, .int .i64 0, .int .i64 0] n = flatE markE (List.replicate n mark0) := by
  induction n with
  | zero => rfl
  | succ n ih => simp only [zerosV, ih, List.replicate_succ, flatE_cons, markE_f, mark0]

theorem compact_any (l : List Mark) (hn : l.length ≤ 5864062014805) {k : Nat} (hk : l.length < k) :
    evF Try.prog Γ (k + 1) 34 [.sl 0 0 l.length 3] [some (.cells (flatE markE l) false)] = some (.sl 0 0 (dedup l).length 3, [some (.cells (flatE markE (dedup l ++ List.replicate (l.length - (dedup l).length) mark0)) false), none]) := by
  have hz := zeros_marks
  rw [b34 (fun _ _ => rfl) _ _ (by simp)]
  by_cases h2 : (l.length : Int) < 2
  · have hd : dedup l = l := by
      cases l with
      | nil => rfl
      | cons x l => cases l with
        | nil => rfl
        | cons y l => simp at h2; omega
    simp -implicitDefEqProofs [h2, hd]
  · simp -implicitDefEqProofs [h2]
    generalize hx : evLoopC _ _ _ _ _ _ _ _ _ _ = R
    apply loop_gen hx (fun i : Nat => (mkL 61 .junk [(0, .sl 0 0 l.length 3), (3, .int .i64 i)], [some (.cells (flatE markE l) false), none])) (fun i => 1 ≤ i ∧ i ≤ l.length ∧ dedup (l.take i) = l.take i) (fun i => l.length - i) 1
    case hI =>
      refine ⟨by omega, by omega, ?_⟩
      cases l with
      | nil => rfl
      | cons x l => rfl
    case hq => omega
    case ht => simp -implicitDefEqProofs [liveOf]
    case round =>
      rintro i ⟨h1, hi, hdd⟩ _
      clear hx
      by_cases hlt : i < l.length
      · obtain ⟨p, rfl⟩ : ∃ p, i = p + 1 := ⟨i - 1, by omega⟩
        have e2 : addI .i64 ((p : Int) + 1) 1 = (p : Int) + 1 + 1 := addI_i64 (by omega) (by omega)
        have e3 : subI .i64 ((p : Int) + 1) 1 = (p : Int) := by rw [subI_i64 (by omega) (by omega)]; omega
        have hds := dedup_succ l p hlt
        have my := at_marks l p (by omega)
        have mx := at_marks l (p + 1) hlt
        have b1 : (p : Int) + 1 < l.length := by omega
        have b2 : (p : Int) < l.length := by omega
        have b3 : 3 ≤ l.length * 3 - (p + 1) * 3 := by omega
        have b4 : 3 ≤ l.length * 3 - p * 3 := by omega
        have e5 : (0 : Int) ≤ (p : Int) + 1 := by omega
        have b5 : p + 1 ≤ l.length := by omega
        have b6 : (p : Int) + 1 ≤ l.length := by omega
        by_cases hne : l[p + 1] = l[p]
        · rw [if_pos hne, hdd] at hds
          simp -implicitDefEqProofs [e2, e3, e5, b1, b2, b3, b4, b5, b6, my, mx, eq_mark, hne]
          have hi0 : (dedup (l.take (p + 2))).length = p + 1 := by rw [hds, List.length_take]; omega
          generalize hy : evLoopC _ _ _ _ _ _ _ _ _ _ = R2
          apply loop_gen hy (fun a : Nat × Nat × List Mark => (mkL 61 .junk [(0, .sl 0 0 l.length 3), (3, .int .i64 a.2.1), (4, .sl 0 ((p + 1) * 3) (l.length - (p + 1)) 3), (5, .int .i64 (a.1 + 1 : Nat))], [some (.cells (flatE markE a.2.2) false), none, none]))
            (fun a => p + 1 + (a.1 + 1) ≤ l.length ∧ a.2.1 = (dedup (l.take (p + 1 + (a.1 + 1)))).length ∧ a.2.1 ≤ p + 1 + a.1 ∧ a.2.2.length = l.length ∧ a.2.2.take a.2.1 = dedup (l.take (p + 1 + (a.1 + 1))) ∧ a.2.2.drop (p + 1 + a.1) = l.drop (p + 1 + a.1)) (fun a => l.length - a.1) (0, p + 1, l)
          case hI =>
            refine ⟨by simp only; omega, hi0.symm, by simp, rfl, ?_, rfl⟩
            simp only
            rw [show p + 1 + (0 + 1) = p + 2 by omega, hds]
          case hq => simp only; omega
          case ht => simp -implicitDefEqProofs [liveOf]
          case round =>
            rintro ⟨q, i, M⟩ ⟨hq, hi, hle, hML, hMt, hMd⟩ _
            clear hy
            simp only at hq hi hle hML hMt hMd
            by_cases hlt2 : p + 1 + (q + 1) < l.length
            · have g1 : (q : Int) + 1 < ((l.length - (p + 1) : Nat) : Int) := by omega
              have g2 : (q : Int) < ((l.length - (p + 1) : Nat) : Int) := by omega
              have g1' : q + 1 < l.length - (p + 1) := by omega
              have g2' : q < l.length - (p + 1) := by omega
              have g3 : (0 : Int) ≤ (q : Int) + 1 := by omega
              have e6 : subI .i64 ((q : Int) + 1) 1 = (q : Int) := by rw [subI_i64 (by omega) (by omega)]; omega
              have e7 : addI .i64 ((q : Int) + 1) 1 = (q : Int) + 1 + 1 := addI_i64 (by omega) (by omega)
              have e8 : addI .i64 (i : Int) 1 = (i : Int) + 1 := addI_i64 (by omega) (by omega)
              have hr0 : M[p + 1 + q]'(by omega) = l[p + 1 + q] := by
                have h := congrArg (·[0]?) hMd
                simp only [List.getElem?_drop, Nat.add_zero] at h
                rw [List.getElem?_eq_getElem (by omega), List.getElem?_eq_getElem (by omega)] at h
                exact Option.some.inj h
              have hr1 : M[p + 1 + q + 1]'(by omega) = l[p + 1 + q + 1] := by
                have h := congrArg (·[1]?) hMd
                simp only [List.getElem?_drop] at h
                rw [List.getElem?_eq_getElem (by omega), List.getElem?_eq_getElem (by omega)] at h
                exact Option.some.inj h
              have m0 := at_marks M (p + 1 + q) (by omega)
              have m1 := at_marks M (p + 1 + q + 1) (by omega)
              rw [hr0, show (p + 1 + q) * 3 = (p + 1) * 3 + q * 3 by omega] at m0
              rw [hr1, show (p + 1 + q + 1) * 3 = (p + 1) * 3 + (q + 1) * 3 by omega] at m1
              have b6 : 3 ≤ M.length * 3 - ((p + 1) * 3 + (q + 1) * 3) := by omega
              have b7 : 3 ≤ M.length * 3 - ((p + 1) * 3 + q * 3) := by omega
              have hds2 := dedup_succ l (p + 1 + q) (by omega)
              have hiM : i < M.length := by omega
              have b8 : i * 3 + 3 ≤ M.length * 3 := by omega
              have b9 : (i : Int) < l.length := by omega
              have b10 : i < l.length := by omega
              have hset := set_marks M i l[p + 1 + q + 1] hiM
              have hMd2 : M.drop (p + 1 + (q + 1)) = l.drop (p + 1 + (q + 1)) := by
                have h := congrArg (List.drop 1) hMd
                rw [List.drop_drop, List.drop_drop] at h
                exact h
              generalize hX : l[p + 1 + q + 1] = x at *
              generalize l[p + 1 + q] = y at *
              by_cases hxy : x = y
              · rw [if_pos hxy, show p + 1 + q + 2 = p + 1 + (q + 1 + 1) by omega, show p + 1 + q + 1 = p + 1 + (q + 1) by omega] at hds2
                simp -implicitDefEqProofs [g1, g2, g1', g2', g3, e6, e7, m0, m1, b6, b7, ne_mark, hxy]
                exact rnd_next (q + 1, i, M) ⟨by simp only; omega, by simp only; rw [hds2]; exact hi, by simp only; omega, hML, by simp only; rw [hds2]; exact hMt, hMd2⟩ (by simp only; omega) (by simp -implicitDefEqProofs [liveOf])
              · rw [if_neg hxy, show p + 1 + q + 2 = p + 1 + (q + 1 + 1) by omega, show p + 1 + q + 1 = p + 1 + (q + 1) by omega] at hds2
                simp -implicitDefEqProofs [g1, g2, g1', g2', g3, e6, e7, e8, m0, m1, b6, b7, b8, b9, b10, ne_mark, hxy, hset]
                refine rnd_next (q + 1, i + 1, M.set i x) ⟨by simp only; omega, by simp only; rw [hds2]; simp [hi], by simp only; omega, by simpa using hML, ?_, ?_⟩ (by simp only; omega) (by simp -implicitDefEqProofs [liveOf])
                · simp only
                  rw [hds2, ← hMt, List.take_succ_eq_append_getElem (by simpa using hiM), List.getElem_set_self, List.take_set_of_le (Nat.le_refl _)]
                · simp only
                  rw [List.drop_set_of_lt (by omega)]
                  exact hMd2
            · have hq' : p + 1 + (q + 1) = l.length := by omega
              rw [hq', List.take_length] at hi hMt
              have g1 : ¬ (q : Int) + 1 < ((l.length - (p + 1) : Nat) : Int) := by omega
              have b1 : i ≤ l.length := by omega
              have b2 : (i : Int) ≤ l.length := by omega
              have w1 : List.take (i * 3) (flatE markE M) ++ (flatE markE (List.replicate (l.length - i) mark0) ++ List.drop (i * 3 + (l.length - i) * 3) (flatE markE M)) = flatE markE (dedup l) ++ flatE markE (List.replicate (l.length - i) mark0) := by
                rw [take_flatE' (n := 3) markE rfl, hMt, List.drop_of_length_le (by simp; omega), List.append_nil]
              by_cases hz0 : l.length - i = 0
              · simp -implicitDefEqProofs [g1, b1, b2, hz0]
                refine ⟨hi, ?_⟩
                rw [← hi, hz0, ← hMt, List.take_of_length_le (by omega)]
                simp
              · simp -implicitDefEqProofs [g1, b1, b2, hz0, hz, w1]
                exact ⟨by omega, hi, by rw [← hi]⟩
        · rw [if_neg hne, hdd] at hds
          simp -implicitDefEqProofs [e2, e3, e5, b1, b2, b3, b4, my, mx, eq_mark, hne]
          refine rnd_next (p + 1 + 1) ⟨by omega, by omega, ?_⟩ (by omega) (by simp -implicitDefEqProofs [liveOf])
          rw [hds, ← List.take_succ_eq_append_getElem hlt]
      · have hi' : i = l.length := by omega
        subst hi'
        rw [List.take_length] at hdd
        simp -implicitDefEqProofs [hdd]
end Go.Ev.Try

/-
  THE CLOCK SEAT: Equal, Compact at strings (own work).
-/
import Derived.Test.YtflmadkbppnmcaaCkA
import Derived.Test.YtflmadkbppnmcaaCkP
set_option linter.unusedSimpArgs false
set_option linter.unusedVariables false
set_option maxRecDepth 100000
set_option maxHeartbeats 4000000
namespace Go.Ev.Try
open Go Go.Ev Go.Proofs

theorem drop_str (l : List ByteArray) (i : Nat) (h : i < l.length) : List.drop i (flatE strE l) = .str l[i] :: flatE strE (l.drop (i + 1)) := by
  rw [drop_flatE1 strE rfl, List.drop_eq_getElem_cons h, flatE_cons]; rfl
theorem zeros_strs (n : Nat) : zerosV [V.str ByteArray.empty] n = flatE strE (List.replicate n ByteArray.empty) := by
  induction n with
  | zero => rfl
  | succ n ih => simp only [zerosV, ih, List.replicate_succ, flatE_cons, strE_f]

/-! ### slices.Equal -/
/-! ### slices.Compact -/
theorem compact_s (l : List ByteArray) (hn : l.length ≤ 8796093022208) {k : Nat} (hk : l.length < k) :
    evF Try.prog Γ (k + 1) 32 [.sl 0 0 l.length 1] [some (.cells (flatE strE l) false)] = some (.sl 0 0 (dedup l).length 1, [some (.cells (flatE strE (dedup l ++ List.replicate (l.length - (dedup l).length) ByteArray.empty)) false), none]) := by
  have hz := zeros_strs
  rw [b32 (fun _ _ => rfl) _ _ (by simp)]
  by_cases h2 : (l.length : Int) < 2
  · have hd : dedup l = l := by
      cases l with
      | nil => rfl
      | cons x l => cases l with
        | nil => rfl
        | cons y l => simp at h2; omega
    simp -implicitDefEqProofs [h2, hd]
  · simp -implicitDefEqProofs [h2]
    generalize hx : evLoopC _ _ _ _ _ _ _ _ _ _ = R
    apply loop_gen hx (fun i : Nat => (mkL 61 .junk [(0, .sl 0 0 l.length 1), (3, .int .i64 i)], [some (.cells (flatE strE l) false), none])) (fun i => 1 ≤ i ∧ i ≤ l.length ∧ dedup (l.take i) = l.take i) (fun i => l.length - i) 1
    case hI =>
      refine ⟨by omega, by omega, ?_⟩
      cases l with
      | nil => rfl
      | cons x l => rfl
    case hq => omega
    case ht => simp -implicitDefEqProofs [liveOf]
    case round =>
      rintro i ⟨h1, hi, hdd⟩ _
      clear hx
      by_cases hlt : i < l.length
      · obtain ⟨p, rfl⟩ : ∃ p, i = p + 1 := ⟨i - 1, by omega⟩
        have e2 : addI .i64 ((p : Int) + 1) 1 = (p : Int) + 1 + 1 := addI_i64 (by omega) (by omega)
        have e3 : subI .i64 ((p : Int) + 1) 1 = (p : Int) := by rw [subI_i64 (by omega) (by omega)]; omega
        have hds := dedup_succ l p hlt
        have my := drop_str l p (by omega)
        have mx := drop_str l (p + 1) hlt
        have b1 : (p : Int) + 1 < l.length := by omega
        have b2 : (p : Int) < l.length := by omega
        have b3 : p + 1 < l.length := hlt
        have b4 : p < l.length := by omega
        have b5 : p + 1 ≤ l.length := by omega
        have b6 : (p : Int) + 1 ≤ l.length := by omega
        have e5 : (0 : Int) ≤ (p : Int) + 1 := by omega
        by_cases hne : l[p + 1] = l[p]
        · rw [if_pos hne, hdd] at hds
          have hi0 : (dedup (l.take (p + 2))).length = p + 1 := by rw [hds, List.length_take]; omega
          generalize hX : l[p + 1] = x at *
          generalize hY : l[p] = y at *
          subst hne
          simp -implicitDefEqProofs [e2, e3, e5, b1, b2, b3, b4, b5, b6, my, mx]
          generalize hy : evLoopC _ _ _ _ _ _ _ _ _ _ = R2
          apply loop_gen hy (fun a : Nat × Nat × List ByteArray => (mkL 61 .junk [(0, .sl 0 0 l.length 1), (3, .int .i64 a.2.1), (4, .sl 0 (p + 1) (l.length - (p + 1)) 1), (5, .int .i64 (a.1 + 1 : Nat))], [some (.cells (flatE strE a.2.2) false), none, none]))
            (fun a => p + 1 + (a.1 + 1) ≤ l.length ∧ a.2.1 = (dedup (l.take (p + 1 + (a.1 + 1)))).length ∧ a.2.1 ≤ p + 1 + a.1 ∧ a.2.2.length = l.length ∧ a.2.2.take a.2.1 = dedup (l.take (p + 1 + (a.1 + 1))) ∧ a.2.2.drop (p + 1 + a.1) = l.drop (p + 1 + a.1)) (fun a => l.length - a.1) (0, p + 1, l)
          case hI =>
            refine ⟨by simp only; omega, hi0.symm, by simp, rfl, ?_, rfl⟩
            simp only
            rw [show p + 1 + (0 + 1) = p + 2 by omega, hds]
          case hq => simp only; omega
          case ht => simp -implicitDefEqProofs [liveOf]
          case round =>
            rintro ⟨q, i, M⟩ ⟨hq, hi, hle, hML, hMt, hMd⟩ _
            clear hy
            simp only at hq hi hle hML hMt hMd
            by_cases hlt2 : p + 1 + (q + 1) < l.length
            · have g1 : (q : Int) + 1 < ((l.length - (p + 1) : Nat) : Int) := by omega
              have g2 : (q : Int) < ((l.length - (p + 1) : Nat) : Int) := by omega
              have g1' : q + 1 < l.length - (p + 1) := by omega
              have g2' : q < l.length - (p + 1) := by omega
              have g3 : (0 : Int) ≤ (q : Int) + 1 := by omega
              have e6 : subI .i64 ((q : Int) + 1) 1 = (q : Int) := by rw [subI_i64 (by omega) (by omega)]; omega
              have e7 : addI .i64 ((q : Int) + 1) 1 = (q : Int) + 1 + 1 := addI_i64 (by omega) (by omega)
              have e8 : addI .i64 (i : Int) 1 = (i : Int) + 1 := addI_i64 (by omega) (by omega)
              have hr0 : M[p + 1 + q]'(by omega) = l[p + 1 + q] := by
                have h := congrArg (·[0]?) hMd
                simp only [List.getElem?_drop, Nat.add_zero] at h
                rw [List.getElem?_eq_getElem (by omega), List.getElem?_eq_getElem (by omega)] at h
                exact Option.some.inj h
              have hr1 : M[p + 1 + q + 1]'(by omega) = l[p + 1 + q + 1] := by
                have h := congrArg (·[1]?) hMd
                simp only [List.getElem?_drop] at h
                rw [List.getElem?_eq_getElem (by omega), List.getElem?_eq_getElem (by omega)] at h
                exact Option.some.inj h
              have m0 := drop_str M (p + 1 + q) (by omega)
              have m1 : List.drop (p + 1 + (q + 1)) (flatE strE M) = .str l[p + 1 + q + 1] :: flatE strE (M.drop (p + 1 + (q + 1) + 1)) := by
                rw [← hr1]; exact drop_str M (p + 1 + (q + 1)) (by omega)
              rw [hr0] at m0
              have b6 : p + 1 + (q + 1) < M.length := by omega
              have b7 : p + 1 + q < M.length := by omega
              have hds2 := dedup_succ l (p + 1 + q) (by omega)
              have hiM : i < M.length := by omega
              have b8 : i + 1 ≤ M.length := by omega
              have b9 : (i : Int) < l.length := by omega
              have b10 : i < l.length := by omega
              have hset : List.take i (flatE strE M) ++ V.str l[p + 1 + q + 1] :: List.drop (i + 1) (flatE strE M) = flatE strE (M.set i l[p + 1 + q + 1]) := set_strs hiM
              have hMd2 : M.drop (p + 1 + (q + 1)) = l.drop (p + 1 + (q + 1)) := by
                have h := congrArg (List.drop 1) hMd
                rw [List.drop_drop, List.drop_drop] at h
                exact h
              generalize hX2 : l[p + 1 + q + 1] = x2 at *
              generalize l[p + 1 + q] = y2 at *
              by_cases hxy : x2 = y2
              · rw [if_pos hxy, show p + 1 + q + 2 = p + 1 + (q + 1 + 1) by omega, show p + 1 + q + 1 = p + 1 + (q + 1) by omega] at hds2
                simp -implicitDefEqProofs [g1, g2, g1', g2', g3, e6, e7, m0, m1, b6, b7, hxy]
                exact rnd_next (q + 1, i, M) ⟨by simp only; omega, by simp only; rw [hds2]; exact hi, by simp only; omega, hML, by simp only; rw [hds2]; exact hMt, hMd2⟩ (by simp only; omega) (by simp -implicitDefEqProofs [liveOf])
              · rw [if_neg hxy, show p + 1 + q + 2 = p + 1 + (q + 1 + 1) by omega, show p + 1 + q + 1 = p + 1 + (q + 1) by omega] at hds2
                simp -implicitDefEqProofs [g1, g2, g1', g2', g3, e6, e7, e8, m0, m1, b6, b7, b8, b9, b10, hxy, hset]
                refine rnd_next (q + 1, i + 1, M.set i x2) ⟨by simp only; omega, by simp only; rw [hds2]; simp [hi], by simp only; omega, by simpa using hML, ?_, ?_⟩ (by simp only; omega) (by simp -implicitDefEqProofs [liveOf])
                · simp only
                  rw [hds2, ← hMt, List.take_succ_eq_append_getElem (by simpa using hiM), List.getElem_set_self, List.take_set_of_le (Nat.le_refl _)]
                · simp only
                  rw [List.drop_set_of_lt (by omega)]
                  exact hMd2
            · have hq' : p + 1 + (q + 1) = l.length := by omega
              rw [hq', List.take_length] at hi hMt
              have g1 : ¬ (q : Int) + 1 < ((l.length - (p + 1) : Nat) : Int) := by omega
              have b1 : i ≤ l.length := by omega
              have b2 : (i : Int) ≤ l.length := by omega
              have w1 : List.take i (flatE strE M) ++ (flatE strE (List.replicate (l.length - i) ByteArray.empty) ++ List.drop l.length (flatE strE M)) = flatE strE (dedup l) ++ flatE strE (List.replicate (l.length - i) ByteArray.empty) := by
                rw [take_flatE1 strE rfl, hMt, List.drop_of_length_le (by simp [hML]), List.append_nil]
              have w2 : i + (l.length - i) = l.length := by omega
              by_cases hz0 : l.length - i = 0
              · simp -implicitDefEqProofs [g1, b1, b2, hz0]
                refine ⟨hi, ?_⟩
                rw [← hi, hz0, ← hMt, List.take_of_length_le (by omega)]
                simp
              · simp -implicitDefEqProofs [g1, b1, b2, hz0, hz, w1, w2]
                exact ⟨by omega, hi, by rw [← hi]⟩
        · rw [if_neg hne, hdd] at hds
          simp -implicitDefEqProofs [e2, e3, e5, b1, b2, b3, b4, my, mx, hne]
          refine rnd_next (p + 1 + 1) ⟨by omega, by omega, ?_⟩ (by omega) (by simp -implicitDefEqProofs [liveOf])
          rw [hds, ← List.take_succ_eq_append_getElem hlt]
      · have hi' : i = l.length := by omega
        subst hi'
        rw [List.take_length] at hdd
        simp -implicitDefEqProofs [hdd]
theorem compact_n {k : Nat} : evF Try.prog Γ (k + 1) 32 [.nils] [] = some (.nils, [none]) := by
  rw [b32 (fun _ _ => rfl) _ _ (by simp)]
  simp -implicitDefEqProofs
end Go.Ev.Try

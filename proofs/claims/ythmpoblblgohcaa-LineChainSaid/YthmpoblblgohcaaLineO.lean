/-
  THE LINE SEAT: Chain (own work).
-/
import Derived.Test.YthmpoblblgohcaaLineN
set_option linter.unusedSimpArgs false
set_option linter.unusedVariables false
set_option maxRecDepth 100000
set_option maxHeartbeats 4000000
namespace Go.Ev.Try
open Go Go.Ev Go.Proofs

/-- One mark taken, if it surely comes behind the last one. -/
def pick (out : List Mark) (m : Mark) : List Mark := match out.getLast? with | none => out ++ [m] | some y => if y.high < m.low then out ++ [m] else out
def chain (l : List Mark) : List Mark := (ByEnd.isort l).foldl pick []
theorem pick_length (out : List Mark) (m : Mark) : (pick out m).length ≤ out.length + 1 := by
  unfold pick; split
  · simp
  · split <;> simp
theorem foldl_pick_length (l : List Mark) : ∀ out : List Mark, (l.foldl pick out).length ≤ out.length + l.length := by
  induction l with
  | nil => intro out; simp
  | cons m l ih => intro out; have := ih (pick out m); have := pick_length out m; rw [List.foldl_cons, List.length_cons]; omega

theorem drop_high (O : List Mark) (c : Nat) (h : c < O.length) : List.drop (c * 3 + 2) (flatE markE O) = V.int .i64 O[c].high :: flatE markE (O.drop (c + 1)) := by
  rw [← List.drop_drop, drop_flatE' (n := 3) markE rfl, List.drop_eq_getElem_cons h, flatE_cons, markE_f]; rfl

theorem stable_nil {k : Nat} (hk : 100 < k) : evF Try.prog Γ (k + 1) 47 [.nils, .fn (.func 48) [] []] [] = some (.tup [], []) := by
  have h : evF Try.prog Γ 40 47 [.nils, .fn (.func 48) [] []] [] = some (.tup [], []) := by kernel_rfl
  exact evF_mono (by omega) _ _ _ _ h

theorem chain_ok (l : List Mark) (hV : Valid l) (h19 : l.length ≤ 19) {k : Nat} (hk : 3000 < k) :
    evF Try.prog Γ (k + 1) 27 [roV true l.length (flatE markE l)] [] = some (.tup [ownV true 0 0 (chain l).length 3, .int .i64 0], [ownB true (chain l).length (flatE markE (chain l))]) := by
  obtain ⟨k, rfl⟩ : ∃ j, k = j + 1 := ⟨k - 1, by omega⟩
  have c1 := check_good l true hV (k := k) (by omega)
  have c2 := clone_ok l (by omega) (k := k)
  have hlen := ByEnd.isort_length l
  rw [b27 (fun _ _ => rfl) _ _ (by simp)]
  cases hn : l.length with
  | zero =>
    have hnil : l = [] := List.length_eq_zero_iff.1 hn
    subst hnil
    have c3 := stable_nil (k := k) (by omega)
    rw [show chain [] = [] from rfl]
    simp at c1 c2
    simp -implicitDefEqProofs [c1, c2, c3]
    generalize hx : evLoopC _ _ _ _ _ _ _ _ _ _ = R
    apply loop_gen hx (fun _ : Nat => (mkL 45 .junk [(6, .nils), (18, .nils), (19, .int .i64 0), (20, .int .i64 0)], [none, none])) (fun _ => True) (fun _ => 0) 0
    case hI => trivial
    case hq => omega
    case ht => simp -implicitDefEqProofs [liveOf]
    case round =>
      intro i _ _
      clear hx c1 c2 c3
      simp -implicitDefEqProofs
  | succ n =>
    have c3 := ByEnd.stable_ok l h19 (k := k) (by omega)
    rw [hn] at c1 c2 c3
    simp only [roV_succ, ownV_succ, ownB_succ] at c1 c2 c3
    rw [chain]
    generalize ByEnd.isort l = S at *
    simp -implicitDefEqProofs [c1, c2, c3]
    generalize hx : evLoopC _ _ _ _ _ _ _ _ _ _ = R
    apply loop_gen hx (fun a : Nat × List Mark => (mkL 45 .junk [(6, ownV true 0 0 a.2.length 3), (18, .sl 1 0 (n + 1) 3), (19, .int .i64 (n + 1 : Nat)), (20, .int .i64 a.1)],
        [ownB true a.2.length (flatE markE a.2), some (.cells (flatE markE S) false)]))
      (fun a => a.1 ≤ n + 1 ∧ a.2 = (S.take a.1).foldl pick []) (fun a => n + 1 - a.1) (0, [])
    case hI => simp
    case hq => simp only; omega
    case ht => simp -implicitDefEqProofs [liveOf]
    case round =>
      rintro ⟨i, O⟩ ⟨hi, hO⟩ _
      clear hx c1 c2 c3
      simp only at hi hO
      have lO := foldl_pick_length (S.take i) []
      rw [← hO, List.length_take] at lO
      simp only [List.length_nil] at lO
      by_cases hlt : i < n + 1
      · have hltS : i < S.length := by omega
        have hlt2 : (i : Int) < (n : Int) + 1 := by omega
        have hiN : i ≤ n := by omega
        have e2 : addI .i64 (i : Int) 1 = (i : Int) + 1 := addI_i64 (by omega) (by omega)
        have h3 : 3 ≤ S.length * 3 - i * 3 := by omega
        have hm := at_marks S i hltS
        have hs : (S.take (i + 1)).foldl pick [] = pick O S[i] := by
          rw [List.take_succ_eq_append_getElem hltS, List.foldl_append, ← hO]; rfl
        generalize S[i] = m at *
        cases hO0 : O.length with
        | zero =>
          have hnil : O = [] := List.length_eq_zero_iff.1 hO0
          subst hnil
          simp -implicitDefEqProofs [hlt2, hiN, hm, e2, h3, markE_f]
          refine rnd_next (i + 1, [m]) ⟨by simp only; omega, by simp only; rw [hs]; rfl⟩ (by simp only; omega) (by simp -implicitDefEqProofs [liveOf, markE_f])
        | succ c =>
          have hc : c < O.length := by omega
          have my := at_marks O c hc
          have md := drop_high O c hc
          have hl : O.getLast? = some O[c] := by rw [List.getLast?_eq_getElem?, hO0]; simp
          have h4 : 3 ≤ O.length * 3 - c * 3 := by omega
          have e4 : subI .i64 ((c : Int) + 1) 1 = c := by rw [subI_i64 (by omega) (by omega)]; omega
          have d0 : ¬ ((c : Int) + 1 = 0) := by omega
          have d1 : (c : Int) < (c : Int) + 1 := by omega
          have hb : (c + 1 + 1) * 24 ≤ 140737488355328 := by omega
          rw [hO0] at h4
          generalize O[c] = y at *
          rw [pick, hl] at hs
          simp only at hs
          by_cases hlow : y.high < m.low
          · rw [if_pos hlow] at hs
            simp -implicitDefEqProofs [hlt2, hiN, hm, e2, h3, markE_f, hO0, my, md, h4, e4, d0, d1, hb, hlow]
            refine rnd_next (i + 1, O ++ [m]) ⟨by simp only; omega, by simp only; rw [hs]⟩ (by simp only; omega) (by simp -implicitDefEqProofs [liveOf, hO0, markE_f])
          · rw [if_neg hlow] at hs
            simp -implicitDefEqProofs [hlt2, hiN, hm, e2, h3, markE_f, hO0, my, md, h4, e4, d0, d1, hb, hlow]
            refine rnd_next (i + 1, O) ⟨by simp only; omega, by simp only; rw [hs]⟩ (by simp only; omega) (by simp -implicitDefEqProofs [liveOf, hO0, markE_f])
      · have hi' : i = n + 1 := by omega
        subst hi'
        rw [List.take_of_length_le (by omega)] at hO
        rw [← hO]
        cases hO0 : O.length with
        | zero => simp -implicitDefEqProofs [List.length_eq_zero_iff.1 hO0]
        | succ c => simp -implicitDefEqProofs [hO0]
end Go.Ev.Try

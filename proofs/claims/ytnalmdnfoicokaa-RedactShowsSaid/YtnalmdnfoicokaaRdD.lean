/-
  THE REDACT SEAT: span.Norm walked (own work).
-/
import Derived.Test.YtnalmdnfoicokaaRdB
set_option linter.unusedSimpArgs false
set_option linter.unusedVariables false
set_option maxRecDepth 100000
set_option maxHeartbeats 4000000
namespace Go.Ev.Try
open Go Go.Ev Go.Proofs

theorem goodsG_snoc (l : List Span) (s : Span) : goodsG (l ++ [s]) = if h : s.good then goodsG l ++ [⟨s, h⟩] else goodsG l := by
  unfold goodsG
  rw [List.filterMap_append]
  split
  · rename_i h; simp [h]
  · rename_i h; simp [h]
theorem goodsG_len (l : List Span) : (goodsG l).length ≤ l.length := List.length_filterMap_le _ _
theorem goodE_f (e : GSpan) : goodE.f e = [.int .i64 e.1.off, .int .i64 e.1.len] := rfl
@[simp] theorem goodE_k : goodE.k = 2 := rfl

theorem norm_ok (l : List Span) (z : Bool) (hl : l.length ≤ 100000) {k : Nat} (hk : l.length + 10 < k) :
    evF Try.prog Γ (k + 1) 29 [roV z l.length (flatE spanE l)] [] = some (ownV true 0 0 (normL l).length 2, [ownB true (normL l).length (flatE spanE (normL l))]) := by
  obtain ⟨k, rfl⟩ : ∃ j, k = j + 2 := ⟨k - 2, by omega⟩
  rw [b29 (fun _ _ => rfl) _ _ (by simp)]
  simp -implicitDefEqProofs
  generalize hx : evLoopC _ _ _ _ _ _ _ _ _ _ = R
  apply loop_gen hx (fun a : Nat × List GSpan => (mkL 70 .junk [(3, ownV true 0 0 a.2.length 2), (10, roV z l.length (flatE spanE l)), (11, .int .i64 l.length), (12, .int .i64 a.1)], [ownB true a.2.length (flatE goodE a.2), none]))
    (fun a => a.1 ≤ l.length ∧ a.2 = goodsG (l.take a.1)) (fun a => l.length - a.1) (0, [])
  case hI => simp [goodsG]
  case hq => simp only; omega
  case ht => simp -implicitDefEqProofs [liveOf, coldOf]
  case round =>
    rintro ⟨i, A⟩ ⟨hi, hA⟩ _
    clear hx
    simp only at hi hA
    by_cases hlt : i < l.length
    · have hlt2 : (i : Int) < l.length := by omega
      have e2 : addI .i64 (i : Int) 1 = (i : Int) + 1 := addI_i64 (by omega) (by omega)
      have ms := at_spans l i hlt
      have c := good_ok l[i] (k := k)
      have hs := goodsG_snoc (l.take i) l[i]
      rw [← List.take_succ_eq_append_getElem hlt, ← hA] at hs
      have hAl : A.length ≤ i := by rw [hA]; refine Nat.le_trans (goodsG_len _) ?_; simp; omega
      generalize l[i] = s at *
      cases hn : A.length with
      | zero =>
        have hnil : A = [] := List.length_eq_zero_iff.1 hn
        subst hnil
        by_cases hg : s.good
        · rw [dif_pos hg] at hs
          simp -implicitDefEqProofs [hlt, hlt2, e2, ms, c, hg]
          refine rnd_next (i + 1, [⟨s, hg⟩]) ⟨hlt, hs.symm⟩ (by simp only; omega) (by simp -implicitDefEqProofs [liveOf, coldOf, goodE_f])
        · rw [dif_neg hg] at hs
          simp -implicitDefEqProofs [hlt, hlt2, e2, ms, c, hg]
          refine rnd_next (i + 1, []) ⟨hlt, hs.symm⟩ (by simp only; omega) (by simp -implicitDefEqProofs [liveOf, coldOf])
      | succ n =>
        by_cases hg : s.good
        · rw [dif_pos hg] at hs
          have hb : (n + 1 + 1) * 16 ≤ 140737488355328 := by omega
          simp -implicitDefEqProofs [hlt, hlt2, e2, ms, c, hg, hb, hn]
          refine rnd_next (i + 1, A ++ [⟨s, hg⟩]) ⟨hlt, hs.symm⟩ (by simp only; omega) (by simp -implicitDefEqProofs [liveOf, coldOf, goodE_f, hn])
        · rw [dif_neg hg] at hs
          simp -implicitDefEqProofs [hlt, hlt2, e2, ms, c, hg, hn]
          refine rnd_next (i + 1, A) ⟨hlt, hs.symm⟩ (by simp only; omega) (by simp -implicitDefEqProofs [liveOf, coldOf, hn])
    · have hi' : i = l.length := by omega
      subst hi'
      rw [List.take_length] at hA
      have hAl : A.length ≤ l.length := by rw [hA]; exact goodsG_len _
      have hSl : (sortedS l).length = A.length := by unfold sortedS; rw [List.length_map, (pdqG _).1.length_eq, hA]
      cases hn : A.length with
      | zero =>
        have hnil : A = [] := List.length_eq_zero_iff.1 hn
        have hS : sortedS l = [] := List.length_eq_zero_iff.1 (by omega)
        have hN : normL l = [] := by unfold normL; rw [hS]; rfl
        have c := sort54_nil (k := k + 2) (by omega)
        subst hnil
        rw [hN]
        simp -implicitDefEqProofs [c]
        generalize hx : evLoopC _ _ _ _ _ _ _ _ _ _ = R
        apply loop_gen hx (fun i : Nat => (mkL 70 .junk [(6, .nils), (25, .nils), (26, .int .i64 0), (27, .int .i64 0)], [none, none])) (fun _ => True) (fun _ => 0) 0
        case hI => trivial
        case hq => omega
        case ht => simp -implicitDefEqProofs [liveOf, coldOf]
        case round =>
          rintro i _ _
          clear hx
          simp -implicitDefEqProofs
      | succ n =>
        have c := sort54 A (by omega) (ex := false) (k := k + 1)
        rw [hn, flat_good (pdqL cmpG A), show (pdqL cmpG A).map (·.1) = sortedS l by unfold sortedS; rw [hA]] at c
        have hg : ∀ s ∈ sortedS l, s.good := fun s hs => ((sortedS_mem l s).1 hs).2
        have hm := merge_facts (sortedS l) hg (sortedS_asc l)
        have hmm : normL l = mergeL (sortedS l) := rfl
        rw [hmm]
        generalize sortedS l = S at *
        rw [hn] at hSl
        simp -implicitDefEqProofs [c]
        generalize hx : evLoopC _ _ _ _ _ _ _ _ _ _ = R
        apply loop_gen hx (fun a : Nat × List Span => (mkL 70 .junk [(6, ownV true 0 0 a.2.length 2), (25, .sl 1 0 (n + 1) 2), (26, .int .i64 ((n : Int) + 1)), (27, .int .i64 a.1)], [ownB true a.2.length (flatE spanE a.2), some (.cells (flatE spanE S) false)]))
          (fun a => a.1 ≤ n + 1 ∧ a.2 = mergeL (S.take a.1)) (fun a => n + 1 - a.1) (0, [])
        case hI => simp [mergeL]
        case hq => simp only; omega
        case ht => simp -implicitDefEqProofs [liveOf, coldOf]
        case round =>
          rintro ⟨i, O⟩ ⟨hi, hO⟩ _
          clear hx
          simp only at hi hO
          by_cases hlt : i < n + 1
          · have hltS : i < S.length := by omega
            have hlt2 : (i : Int) < (n : Int) + 1 := by omega
            have e2 : addI .i64 (i : Int) 1 = (i : Int) + 1 := addI_i64 (by omega) (by omega)
            have ms := at_spans S i hltS
            obtain ⟨⟨m1, m1'⟩, m2, m3, m4⟩ := hm i (by omega)
            have hsg := hg _ (List.getElem_mem hltS)
            have hs := mergeL_snoc (S.take i) S[i]
            rw [← List.take_succ_eq_append_getElem hltS, ← hO] at hs
            rw [← hO] at m1 m2
            generalize S[i] = s at *
            have cs := end_ok s hsg.1 (k := k + 1)
            rcases List.eq_nil_or_concat O with rfl | ⟨O, p, rfl⟩
            · rw [mstep_nil] at hs
              have e3 : subI .i64 0 1 = -1 := by rw [subI_i64 (by omega) (by omega)]; rfl
              have h3 : 2 ≤ S.length * 2 - i * 2 := by omega
              simp -implicitDefEqProofs [hlt, hlt2, e2, e3, ms, h3]
              refine rnd_next (i + 1, [s]) ⟨hlt, hs.symm⟩ (by simp only; omega) (by simp -implicitDefEqProofs [liveOf, coldOf, spanE_f])
            · rw [List.concat_eq_append] at *
              rw [mstep_snoc] at hs
              have hpg := m1 p (by simp)
              have cp := end_ok p hpg.1 (k := k + 1)
              have e3 : subI .i64 ((O.length : Int) + 1) 1 = O.length := by rw [subI_i64 (by simp at m2; omega) (by simp at m2; omega)]; omega
              have hnn : (0 : Int) ≤ O.length := by omega
              have h3 : 2 ≤ S.length * 2 - i * 2 := by omega
              have h4 : (O.length : Int) < O.length + 1 := by omega
              have h5 : (O.length + 1) * 2 = O.length * 2 + 2 := by omega
              have hd : ∀ a b : V, List.drop (O.length * 2) (flatE spanE O ++ [a, b]) = [a, b] := fun a b => by
                rw [List.drop_append_of_le_length (by simp), List.drop_of_length_le (by simp)]; rfl
              by_cases hle : s.off ≤ p.e
              · rw [if_pos hle] at hs
                have hle2 : s.off ≤ p.off + p.len := hle
                have hE : (if p.e < s.e then s.e else p.e) = (if p.off + p.len < s.off + s.len then s.off + s.len else p.off + p.len) := rfl
                have hEb : (if p.e < s.e then s.e else p.e) = p.e ∨ (if p.e < s.e then s.e else p.e) = s.e := by split <;> simp
                generalize (if p.e < s.e then s.e else p.e) = E at *
                obtain ⟨⟨g1, g2, g3, g4⟩, g5⟩ := hpg
                obtain ⟨⟨k1, k2, k3, k4⟩, k5⟩ := hsg
                have e4 : subI .i64 E p.off = E - p.off := by unfold Span.e at hEb; exact subI_i64 (by omega) (by omega)
                have ht : ∀ a b : V, List.take (O.length * 2 + 1) (flatE spanE O ++ [a, b]) = flatE spanE O ++ [a] := fun a b => by
                  rw [List.take_append, List.take_of_length_le (by simp)]
                  simp
                have hd2 : ∀ a b : V, List.drop (O.length * 2 + 1 + 1) (flatE spanE O ++ [a, b]) = [] := fun a b => by
                  rw [List.drop_of_length_le]; simp
                simp -implicitDefEqProofs [hlt, hlt2, e2, e3, ms, cs, cp, hd, hle2, hnn, ← hE, e4, ht, hd2, spanE_f, h3, h4]
                refine rnd_next (i + 1, O ++ [⟨p.off, E - p.off⟩]) ⟨hlt, hs.symm⟩ (by simp only; omega) (by simp -implicitDefEqProofs [liveOf, coldOf, spanE_f])
              · rw [if_neg hle] at hs
                have hle2 : ¬ s.off ≤ p.off + p.len := hle
                have hb : (O.length + 1 + 1) * 16 ≤ 140737488355328 := by simp at m2; omega
                simp -implicitDefEqProofs [hlt, hlt2, e2, e3, ms, cs, cp, hd, hle2, hnn, hb, spanE_f, h3, h4, h5]
                refine rnd_next (i + 1, O ++ [p] ++ [s]) ⟨hlt, hs.symm⟩ (by simp only; omega) (by simp -implicitDefEqProofs [liveOf, coldOf, spanE_f])
          · have hi' : i = n + 1 := by omega
            subst hi'
            rw [List.take_of_length_le (by omega)] at hO
            subst hO
            generalize mergeL S = M at *
            cases hM : M.length with
            | zero => simp -implicitDefEqProofs
            | succ c => simp -implicitDefEqProofs [hM]
end Go.Ev.Try

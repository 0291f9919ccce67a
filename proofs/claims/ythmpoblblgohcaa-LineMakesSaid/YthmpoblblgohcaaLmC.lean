/-
  THE LINE SEAT: the reference's Lined, for all marks (own work).
-/
import Derived.Test.YthmpoblblgohcaaLmB
set_option linter.unusedSimpArgs false
set_option linter.unusedVariables false
set_option maxRecDepth 100000
set_option maxHeartbeats 4000000
namespace Go.Ev.Try
open Go Go.Ev Go.Proofs

theorem insert43 (L : List Mark) (x : Mark) (i : Nat) (hi : i ≤ L.length) (hb : (L.length + 1) * 24 ≤ 140737488355328) {k : Nat} :
    evF Try.prog Γ (k + 1) 43 [.sl 0 0 L.length 3, .int .i64 i, .sl 1 0 1 3] [some (.cells (flatE markE L) false), some (.cells (markE.f x) true)] = some (.sl 9 0 (L.length + 1) 3, List.replicate 9 none ++ [some (.cells (flatE markE (insL L i x)) false)]) := by
  refine evF_orc ?_
  have ho : ∀ a H, Γ.orc 43 a H = insOrc markE 24 9 a H := fun a H => by simp [Γ, Γo, lineOrc]
  rw [ho]
  exact insOrc_eq markE (by decide) markE_inj 24 9 L x i hi hb
theorem insert43n (x : Mark) {k : Nat} : evF Try.prog Γ (k + 1) 43 [.nils, .int .i64 0, .sl 0 0 1 3] [some (.cells (markE.f x) true)] = some (.sl 9 0 1 3, List.replicate 9 none ++ [some (.cells (markE.f x) false)]) := by
  refine evF_orc ?_
  have ho : ∀ a H, Γ.orc 43 a H = insOrc markE 24 9 a H := fun a H => by simp [Γ, Γo, lineOrc]
  rw [ho]
  exact insOrc_nil markE 24 9 x

theorem lined0_ok (l : List Mark) (z : Bool) (hl : l.length ≤ 5864062014805) {k : Nat} (hk : l.length + 1010 < k) (e : Int) (he : e = faultM (lineM l)) :
    evF Try.prog Γ (k + 1) 21 [roV z l.length (flatE markE l)] [] = if e = 0 then some (.tup [ownV true 0 0 (lineM l).length 3, .int .i64 0], [ownB true (lineM l).length (flatE markE (lineM l))]) else some (.tup [.nils, .int .i64 e], [none]) := by
  obtain ⟨k, rfl⟩ : ∃ j, k = j + 2 := ⟨k - 2, by omega⟩
  rw [b21 (fun _ _ => rfl) _ _ (by simp)]
  simp -implicitDefEqProofs
  generalize hx : evLoopC _ _ _ _ _ _ _ _ _ _ = R
  apply loop_gen hx (fun i : Nat => (mkL 54 .junk [(4, ownV true 0 0 (lineM (l.take i)).length 3), (9, roV z l.length (flatE markE l)), (10, .int .i64 l.length), (11, .int .i64 i)], [ownB true (lineM (l.take i)).length (flatE markE (lineM (l.take i))), none]))
    (fun i => i ≤ l.length) (fun i => l.length - i) 0
  case hI => simp
  case hq => omega
  case ht => simp -implicitDefEqProofs [liveOf, lineM, Ord.insF]
  case round =>
    rintro i hi _
    clear hx
    by_cases hlt : i < l.length
    · have hlt2 : (i : Int) < l.length := by omega
      have ms := at_marks l i hlt
      have h3 : 3 ≤ l.length * 3 - i * 3 := by omega
      have hs : lineM (l.take (i + 1)) = Ord.insS less (lineM (l.take i)) l[i] := by
        rw [List.take_succ_eq_append_getElem hlt, lineM_snoc]
      have hlen : (lineM (l.take i)).length ≤ i := Nat.le_trans (lineM_len _) (by simp; omega)
      have e2 : addI .i64 (i : Int) 1 = (i : Int) + 1 := addI_i64 (by omega) (by omega)
      generalize l[i] = x at *
      generalize lineM (l.take i) = O at *
      cases hO : O.length with
      | zero =>
        have hnil : O = [] := List.length_eq_zero_iff.1 hO
        subst hnil
        have ci := insert43n x (k := k + 1)
        have hins : Ord.insS less [] x = [x] := rfl
        simp only [markE_f] at ci
        simp -implicitDefEqProofs [hlt, hlt2, ms, h3]
        generalize hy : evLoopC _ _ _ _ _ _ _ _ _ _ = R2
        apply loop_gen hy (fun j : Nat => (mkL 54 .junk [(4, .nils), (6, .ptr 1 0), (7, .int .i64 0), (9, roV z l.length (flatE markE l)), (10, .int .i64 l.length), (11, .int .i64 i)], [none, some (.cells (markE.f x) true), none])) (fun _ => True) (fun _ => 0) 0
        case hI => trivial
        case hq => omega
        case ht => simp -implicitDefEqProofs [liveOf, markE_f]
        case round =>
          rintro j _ _
          clear hy
          simp -implicitDefEqProofs [markE_f, ci, e2]
          exact rnd_next (i + 1) hlt (by omega) (by simp -implicitDefEqProofs [liveOf, hs, hins, markE_f])
      | succ c =>
        simp -implicitDefEqProofs [hlt, hlt2, ms, h3]
        generalize hy : evLoopC _ _ _ _ _ _ _ _ _ _ = R2
        apply loop_gen hy (fun j : Nat => (mkL 54 .junk [(4, .sl 0 0 (c + 1) 3), (6, .ptr 1 0), (7, .int .i64 j), (9, roV z l.length (flatE markE l)), (10, .int .i64 l.length), (11, .int .i64 i)], [some (.cells (flatE markE O) false), some (.cells (markE.f x) true), none]))
          (fun j => j ≤ c + 1 ∧ ∀ t (ht : t < j) (ht' : t < O.length), less O[t] x = true) (fun j => c + 1 - j) 0
        case hI => exact ⟨by omega, fun t ht => by omega⟩
        case hq => omega
        case ht => simp -implicitDefEqProofs [liveOf, markE_f]
        case round =>
          rintro j ⟨hj, hall⟩ _
          clear hy
          by_cases hjl : j < c + 1
          · have hjO : j < O.length := by omega
            have g1 : (j : Int) < (c : Int) + 1 := by omega
            have m0 := at_marks O j hjO
            have e3 : addI .i64 (j : Int) 1 = (j : Int) + 1 := addI_i64 (by omega) (by omega)
            have htw := Ord.take_while_len (lt := less) O x j (by omega) (fun t ht => hall t ht (by omega))
            have hg : O[j]? = some O[j] := List.getElem?_eq_getElem hjO
            have hnx : less O[j] x = true → ∀ t (ht : t < j + 1) (ht' : t < O.length), less O[t] x = true := fun h t ht ht' => by
              rcases Nat.lt_or_ge t j with h' | h'
              · exact hall t h' ht'
              · obtain rfl : t = j := by omega
                exact h
            have hfin : less O[j] x = false → Ord.insS less O x = if O[j] = x then O else insL O j x := fun h => by
              unfold Ord.insS
              simp only
              rw [htw (fun _ => h), hg]
              simp only [Option.some.injEq]
            have hne : ¬ (j : Int) = (c : Int) + 1 := by omega
            have h33 : 3 ≤ O.length * 3 - j * 3 := by omega
            have hin := insL_length O j x (by omega)
            have ci := insert43 O x j (by omega) (by omega) (k := k + 1)
            have cm := markLess_ok O[j] x (k := k + 1) (by omega)
            rw [hO] at ci hin
            simp only [markE_f] at ci cm
            have hcl := cmpM_less O[j] x
            generalize O[j] = y at *
            cases hlts : less y x with
            | true =>
              rw [hlts] at hcl
              have hc : cmpM y x < 0 := of_decide_eq_true hcl
              simp -implicitDefEqProofs [markE_f, g1, hjl, h33, m0, e3, cm, hc]
              exact rnd_next (j + 1) ⟨hjl, hnx hlts⟩ (by omega) (by simp -implicitDefEqProofs [liveOf, markE_f])
            | false =>
              rw [hlts] at hcl
              have hc : ¬ cmpM y x < 0 := of_decide_eq_false hcl
              have hf := hfin hlts
              by_cases hyx : y = x
              · rw [if_pos hyx] at hf
                subst hyx
                simp -implicitDefEqProofs [markE_f, g1, hjl, h33, m0, e2, cm, hc, hne, ne_mark]
                exact rnd_next (i + 1) hlt (by omega) (by simp -implicitDefEqProofs [liveOf, hs, hf, hO])
              · rw [if_neg hyx] at hf
                simp -implicitDefEqProofs [markE_f, g1, hjl, h33, m0, e2, cm, hc, hyx, hne, ci, ne_mark]
                exact rnd_next (i + 1) hlt (by omega) (by simp -implicitDefEqProofs [liveOf, hs, hf, hin])
          · have hjc : j = c + 1 := by omega
            subst hjc
            have g1 : ¬ ((c : Int) + 1 < (c : Int) + 1) := by omega
            have htw := Ord.take_while_len (lt := less) O x (c + 1) (by omega) (fun t ht => hall t ht (by omega)) (fun ht => by omega)
            have hg : O[c + 1]? = none := List.getElem?_eq_none (by omega)
            have hf : Ord.insS less O x = insL O (c + 1) x := by
              unfold Ord.insS
              simp only
              rw [htw, hg]
              simp
            have hin := insL_length O (c + 1) x (by omega)
            have ci := insert43 O x (c + 1) (by omega) (by omega) (k := k + 1)
            rw [hO] at ci hin
            simp [markE_f] at ci
            simp -implicitDefEqProofs [markE_f, g1, e2, ci]
            exact rnd_next (i + 1) hlt (by omega) (by simp -implicitDefEqProofs [liveOf, hs, hf, hin])
    · have hi' : i = l.length := by omega
      subst hi'
      have hlt2 : ¬ (l.length : Int) < (l.length : Int) := by omega
      rw [List.take_length]
      have cf := fault_any (lineM l) true (k := k + 1) (by omega)
      rw [← he] at cf
      generalize lineM l = O at *
      cases hO : O.length with
      | zero =>
        rw [hO] at cf
        have hnil : O = [] := List.length_eq_zero_iff.1 hO
        subst hnil
        simp at cf
        by_cases h0 : e = 0
        · simp -implicitDefEqProofs [cf, h0]
        · simp -implicitDefEqProofs [cf, h0]
      | succ c =>
        rw [hO] at cf
        simp at cf
        have tk : List.take ((c + 1) * 3) (flatE markE O) = flatE markE O := by rw [List.take_of_length_le]; simp [hO]
        by_cases h0 : e = 0
        · simp -implicitDefEqProofs [cf, h0, tk]
        · simp -implicitDefEqProofs [cf, h0, tk]
end Go.Ev.Try

/-
  THE CLOCK SEAT: the reference's ClocksOf (own work).
-/
import Derived.Test.YtflmadkbppnmcaaCkD
set_option linter.unusedSimpArgs false
set_option linter.unusedVariables false
set_option maxRecDepth 100000
set_option maxHeartbeats 4000000
namespace Go.Ev.Try
open Go Go.Ev Go.Proofs

theorem insert33 (L : List ByteArray) (x : ByteArray) (i : Nat) (hi : i ≤ L.length) (hb : (L.length + 1) * 16 ≤ 140737488355328) {k : Nat} :
    evF Try.prog Γ (k + 1) 33 [.sl 0 0 L.length 1, .int .i64 i, .sl 1 0 1 1] [some (.cells (flatE strE L) false), some (.cells [.str x] true)] = some (.sl 9 0 (L.length + 1) 1, List.replicate 9 none ++ [some (.cells (flatE strE (insL L i x)) false)]) := by
  refine evF_orc ?_
  have ho : ∀ a H, Γ.orc 33 a H = insOrc strE 16 9 a H := fun a H => by simp [Γ, Γo, clockOrc]
  rw [ho]
  exact insOrc_eq strE (by decide) (fun a b h => by simpa using h) 16 9 L x i hi hb
theorem insert33n (x : ByteArray) {k : Nat} : evF Try.prog Γ (k + 1) 33 [.nils, .int .i64 0, .sl 0 0 1 1] [some (.cells [.str x] true)] = some (.sl 9 0 1 1, List.replicate 9 none ++ [some (.cells [.str x] false)]) := by
  refine evF_orc ?_
  have ho : ∀ a H, Γ.orc 33 a H = insOrc strE 16 9 a H := fun a H => by simp [Γ, Γo, clockOrc]
  rw [ho]
  exact insOrc_nil strE 16 9 x
theorem take_while_len (O : List ByteArray) (x : ByteArray) (j : Nat) (hj : j ≤ O.length) (h : ∀ t (ht : t < j), ltS (O[t]'(by omega)) x = true) (hn : ∀ (ht : j < O.length), ltS O[j] x = false) : (O.takeWhile fun y => ltS y x).length = j := by
  induction O generalizing j with
  | nil => simp at hj; subst hj; rfl
  | cons o O ih =>
    cases j with
    | zero =>
      have := hn (by simp)
      simp only [List.getElem_cons_zero] at this
      rw [List.takeWhile_cons, this]; rfl
    | succ j =>
      have h0 := h 0 (by omega)
      simp only [List.getElem_cons_zero] at h0
      rw [List.takeWhile_cons, h0]
      simp only [if_true, List.length_cons]
      rw [ih j (by simpa using hj) (fun t ht => by have := h (t + 1) (by omega); simpa using this) (fun ht => by have := hn (by simpa using ht); simpa using this)]

theorem clocksOf_ok (l : List Event) (z : Bool) (hl : l.length ≤ 8796093022206) {k : Nat} (hk : l.length + 10 < k) :
    evF Try.prog Γ (k + 1) 11 [roV z l.length (flatE eventE l)] [] = some (ownV true 0 0 (insF (clks l)).length 1, [ownB true (insF (clks l)).length (flatE strE (insF (clks l)))]) := by
  obtain ⟨k, rfl⟩ : ∃ j, k = j + 2 := ⟨k - 2, by omega⟩
  rw [b11 (fun _ _ => rfl) _ _ (by simp)]
  simp -implicitDefEqProofs
  generalize hx : evLoopC _ _ _ _ _ _ _ _ _ _ = R
  apply loop_gen hx (fun i : Nat => (mkL 49 .junk [(3, ownV true 0 0 (insF ((clks l).take i)).length 1), (7, roV z l.length (flatE eventE l)), (8, .int .i64 l.length), (9, .int .i64 i)], [ownB true (insF ((clks l).take i)).length (flatE strE (insF ((clks l).take i))), none]))
    (fun i => i ≤ l.length) (fun i => l.length - i) 0
  case hI => simp
  case hq => omega
  case ht => simp -implicitDefEqProofs [liveOf, insF]
  case round =>
    rintro i hi _
    clear hx
    by_cases hlt : i < l.length
    · have hlt2 : (i : Int) < l.length := by omega
      have ms := at_events l i hlt
      have h3 : 3 ≤ l.length * 3 - i * 3 := by omega
      have hs : insF ((clks l).take (i + 1)) = insS (insF ((clks l).take i)) l[i].clock := by
        rw [List.take_succ_eq_append_getElem (by simpa using hlt), insF_snoc]; simp [clks]
      have hlen : (insF ((clks l).take i)).length ≤ l.length := Nat.le_trans (insF_len _) (by simp; omega)
      have e2 : addI .i64 (i : Int) 1 = (i : Int) + 1 := addI_i64 (by omega) (by omega)
      generalize l[i] = x at *
      generalize insF ((clks l).take i) = O at *
      cases hO : O.length with
      | zero =>
        have hnil : O = [] := List.length_eq_zero_iff.1 hO
        subst hnil
        have ci := insert33n x.clock (k := k + 1)
        have hins : insS [] x.clock = [x.clock] := rfl
        simp -implicitDefEqProofs [hlt, hlt2, ms, h3]
        generalize hy : evLoopC _ _ _ _ _ _ _ _ _ _ = R2
        apply loop_gen hy (fun j : Nat => (mkL 49 .junk [(3, .nils), (5, .ptr 1 0), (6, .int .i64 0), (7, roV z l.length (flatE eventE l)), (8, .int .i64 l.length), (9, .int .i64 i)], [none, some (.cells (eventE.f x) true), none])) (fun _ => True) (fun _ => 0) 0
        case hI => trivial
        case hq => omega
        case ht => simp -implicitDefEqProofs [liveOf, eventE_f]
        case round =>
          rintro j _ _
          clear hy
          simp -implicitDefEqProofs [eventE_f, ci, e2]
          exact rnd_next (i + 1) hlt (by omega) (by simp -implicitDefEqProofs [liveOf, hs, hins])
      | succ c =>
        simp -implicitDefEqProofs [hlt, hlt2, ms, h3]
        generalize hy : evLoopC _ _ _ _ _ _ _ _ _ _ = R2
        apply loop_gen hy (fun j : Nat => (mkL 49 .junk [(3, .sl 0 0 (c + 1) 1), (5, .ptr 1 0), (6, .int .i64 j), (7, roV z l.length (flatE eventE l)), (8, .int .i64 l.length), (9, .int .i64 i)], [some (.cells (flatE strE O) false), some (.cells (eventE.f x) true), none]))
          (fun j => j ≤ c + 1 ∧ ∀ t (ht : t < j) (ht' : t < O.length), ltS O[t] x.clock = true) (fun j => c + 1 - j) 0
        case hI => exact ⟨by omega, fun t ht => by omega⟩
        case hq => omega
        case ht => simp -implicitDefEqProofs [liveOf, eventE_f]
        case round =>
          rintro j ⟨hj, hall⟩ _
          clear hy
          by_cases hjl : j < c + 1
          · have hjO : j < O.length := by omega
            have g1 : (j : Int) < (c : Int) + 1 := by omega
            have m0 := drop_str O j hjO
            have e3 : addI .i64 (j : Int) 1 = (j : Int) + 1 := addI_i64 (by omega) (by omega)
            have htw := take_while_len O x.clock j (by omega) (fun t ht => hall t ht (by omega))
            have hg : O[j]? = some O[j] := List.getElem?_eq_getElem hjO
            have hnx : ltS O[j] x.clock = true → ∀ t (ht : t < j + 1) (ht' : t < O.length), ltS O[t] x.clock = true := fun h t ht ht' => by
              rcases Nat.lt_or_ge t j with h' | h'
              · exact hall t h' ht'
              · obtain rfl : t = j := by omega
                exact h
            have hfin : ltS O[j] x.clock = false → insS O x.clock = if O[j] = x.clock then O else insL O j x.clock := fun h => by
              unfold insS
              simp only
              rw [htw (fun _ => h), hg]
              simp only [Option.some.injEq]
            have hne : ¬ (j : Int) = (c : Int) + 1 := by omega
            have hin := insL_length O j x.clock (by omega)
            have ci := insert33 O x.clock j (by omega) (by omega) (k := k + 1)
            rw [hO] at ci hin
            generalize O[j] = y at *
            cases hlts : ltS y x.clock with
            | true =>
              have hlts' : Op.bytesLess y.toList x.clock.toList = true := hlts
              simp -implicitDefEqProofs [eventE_f, g1, hjl, m0, e3, hlts']
              exact rnd_next (j + 1) ⟨hjl, hnx hlts⟩ (by omega) (by simp -implicitDefEqProofs [liveOf, eventE_f])
            | false =>
              have hlts' : Op.bytesLess y.toList x.clock.toList = false := hlts
              have hf := hfin hlts
              by_cases hyx : y = x.clock
              · rw [if_pos hyx] at hf
                subst hyx
                simp -implicitDefEqProofs [eventE_f, g1, hjl, m0, e2, hlts', hne]
                exact rnd_next (i + 1) hlt (by omega) (by simp -implicitDefEqProofs [liveOf, hs, hf, hO])
              · rw [if_neg hyx] at hf
                simp -implicitDefEqProofs [eventE_f, g1, hjl, m0, e2, hlts', hyx, hne, ci]
                exact rnd_next (i + 1) hlt (by omega) (by simp -implicitDefEqProofs [liveOf, hs, hf, hin])
          · have hjc : j = c + 1 := by omega
            subst hjc
            have g1 : ¬ ((c : Int) + 1 < (c : Int) + 1) := by omega
            have htw := take_while_len O x.clock (c + 1) (by omega) (fun t ht => hall t ht (by omega)) (fun ht => by omega)
            have hg : O[c + 1]? = none := List.getElem?_eq_none (by omega)
            have hf : insS O x.clock = insL O (c + 1) x.clock := by
              unfold insS
              simp only
              rw [htw, hg]
              simp
            have hin := insL_length O (c + 1) x.clock (by omega)
            have ci := insert33 O x.clock (c + 1) (by omega) (by omega) (k := k + 1)
            rw [hO] at ci hin
            simp at ci
            simp -implicitDefEqProofs [eventE_f, g1, e2, ci]
            exact rnd_next (i + 1) hlt (by omega) (by simp -implicitDefEqProofs [liveOf, hs, hf, hin])
    · have hi' : i = l.length := by omega
      subst hi'
      have hlt2 : ¬ (l.length : Int) < (l.length : Int) := by omega
      have ht : (clks l).take l.length = clks l := List.take_of_length_le (by simp)
      rw [ht]
      cases hO : (insF (clks l)).length <;> simp -implicitDefEqProofs
end Go.Ev.Try

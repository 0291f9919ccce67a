import Derived.Test.YtflmadkbppnmcaaCkBn
import Derived.Test.YtflmadkbppnmcaaCkBo
import Derived.Test.YtflmadkbppnmcaaCkBk
import Derived.Test.YtflmadkbppnmcaaCkI
set_option linter.unusedSimpArgs false
set_option linter.unusedVariables false
set_option maxRecDepth 100000
set_option maxHeartbeats 4000000
namespace Go.Ev.Try
open Go Go.Ev Go.Proofs
theorem bounds_nil (z z2 : Bool) : evF Try.prog Γ 60 25 [roV z 0 [], roV z2 0 []] [] = some (.tup [.nils, .int .i64 1], [none]) := by
  cases z <;> cases z2 <;> kernel_rfl
theorem ownV_pos' {id off n sz : Nat} (h : 0 < n) : ownV true id off n sz = .sl id off n sz := ownV_pos id off n sz h
theorem ownB_pos' {n : Nat} {cs : List V} (h : 0 < n) : ownB true n cs = some (.cells cs false) := ownB_pos n cs h
theorem callPlain_tup2 {call : CallF} {H : Heap} {f : Nat} {k : IntKind} {b : Bool} {x : Int} {args : List V} (hc : call f (args.map (snap 4 H)) [] = some (.tup [.bool b, .int k x], [])) : callPlain call H f args = some (.tup [.bool b, .int k x], H) := by
  unfold callPlain; rw [hc]; simp
theorem holdsLaw_ok (l : List Event) (ties : List Tie) (E T : List Int) (a b : Int) (z z2 ze zt : Bool) (N : Nat) (hN : N ≤ 9223372036854775000) (hz : ∀ x ∈ l, x.clock.size ≤ N) (hl : l.length ≤ 8796093022206) (ht : ties.length ≤ 8796093022206) (hE : E.length ≤ 17592186044400) (hT : T.length ≤ 17592186044400) {k : Nat} (hk : N + l.length + 1000 < k) :
    evF Try.prog Γ (k + 1) 6 [roV z l.length (flatE eventE l), roV z2 ties.length (flatE tieE ties), roV ze E.length (flatE (intE .i64) E), roV zt T.length (flatE (intE .i64) T), .int .i64 a, .int .i64 b] [] = some (.bool true, []) := by
  obtain ⟨k, rfl⟩ : ∃ j, k = j + 1 := ⟨k - 1, by omega⟩
  have c0 := timed_ok (k := k) (by omega)
  have c4 := fault_ok l ties z z2 N hN hz hl ht (k := k) (by omega)
  have c23 := holds_ok l ties E T z z2 ze zt hl ht hE hT (k := k) (by omega)
  have c24 := before_ok l ties a b z z2 hl ht (k := k) (by omega)
  rw [b6 (fun _ _ => rfl) _ _ (by simp)]
  by_cases hf : faultC l ties = 0
  · have hr := right_of hf
    have c5 := ranges_ok l ties z z2 hr (k := k) (by omega)
    have c11 := clocksOf_ok l z hl (k := k) (by omega)
    have hcl : (insF (clks l)).length = nC l := rfl
    rw [hcl] at c11
    obtain ⟨LR, hLR⟩ := ranges_shape l ties
    rw [hLR] at c5
    rw [hf] at c4
    unfold holdsR at c23
    rw [if_pos hf] at c23
    unfold beforeR at c24
    rw [if_pos hf] at c24
    have hT3 : ∃ bb be, evF Try.prog Γ (k + 1) 24 [roV z l.length (flatE eventE l), roV z2 ties.length (flatE tieE ties), .int .i64 a, .int .i64 b] [] = some (.tup [.bool bb, .int .i64 be], []) ∧
        ((outside l a b ∧ bb = false ∧ be = 8) ∨ (¬ outside l a b ∧ feas l ties = false ∧ bb = false ∧ be = 17) ∨ (¬ outside l a b ∧ feas l ties = true ∧ be = 0 ∧ evF Try.prog Γ (k + 1) 26 [roV z l.length (flatE eventE l), roV z2 ties.length (flatE tieE ties), .int .i64 a, .int .i64 b] [] = some (.bool bb, []))) := by
      by_cases ho : outside l a b
      · rw [if_pos ho] at c24
        exact ⟨_, _, c24, .inl ⟨ho, rfl, rfl⟩⟩
      · rw [if_neg ho] at c24
        cases hc : closed (nV l) (bds l ties) with
        | none =>
          rw [hc] at c24
          exact ⟨_, _, c24, .inr (.inl ⟨ho, by unfold feas; rw [hc]; rfl, rfl, rfl⟩)⟩
        | some d =>
          rw [hc] at c24
          exact ⟨_, _, c24, .inr (.inr ⟨ho, by unfold feas; rw [hc]; rfl, rfl, earlier_ok l ties a b z z2 hr ho hc (k := k) (by omega)⟩)⟩
    clear c24
    obtain ⟨bb, be, c24, hT3⟩ := hT3
    have hTail : (outside l a b ∧ bb = false ∧ be = 8) ∨ (¬ outside l a b ∧ feas l ties = false ∧ bb = false ∧ be = 17) ∨ (¬ outside l a b ∧ feas l ties = true ∧ be = 0 ∧ ∀ H, callPlain (evF Try.prog Γ (k + 1)) H 26 [roV z l.length (flatE eventE l), roV z2 ties.length (flatE tieE ties), .int .i64 a, .int .i64 b] = some (.bool bb, H)) := by
      rcases hT3 with h | h | ⟨h1, h2, h3, h4⟩
      · exact .inl h
      · exact .inr (.inl h)
      · exact .inr (.inr ⟨h1, h2, h3, fun H => callPlain_bool (by simpa using h4)⟩)
    clear hT3
    have hnC : nC l ≤ 12 := hr.hc
    have hLL := hr.hl
    have hTT := hr.ht
    have p5 := fun H => callPlain_tupb (E := pairE) (call := evF Try.prog Γ (k + 1)) (H := H) (f := 15) (args := [roV z l.length (flatE eventE l), roV z2 ties.length (flatE tieE ties)]) (by simpa using c5)
    have p0 := fun H => callPlain_bool (call := evF Try.prog Γ (k + 1)) (H := H) (f := 8) (args := []) (by simpa using c0)
    have p4 := fun H => callPlain_int (call := evF Try.prog Γ (k + 1)) (H := H) (f := 13) (args := [roV z l.length (flatE eventE l), roV z2 ties.length (flatE tieE ties)]) (by simpa using c4)
    have p24 := fun H => callPlain_tup2 (call := evF Try.prog Γ (k + 1)) (H := H) (f := 24) (args := [roV z l.length (flatE eventE l), roV z2 ties.length (flatE tieE ties), .int .i64 a, .int .i64 b]) (by simpa using c24)
    have p11 := fun H => callPlain_own (E := strE) (call := evF Try.prog Γ (k + 1)) (H := H) (f := 11) (args := [roV z l.length (flatE eventE l)]) (by simpa using c11)
    by_cases hlen : E.length = nC l ∧ T.length = l.length
    · rw [if_pos hlen] at c23
      have p23 := fun H => callPlain_tup2 (call := evF Try.prog Γ (k + 1)) (H := H) (f := 23) (args := [roV z l.length (flatE eventE l), roV z2 ties.length (flatE tieE ties), roV ze E.length (flatE (intE .i64) E), roV zt T.length (flatE (intE .i64) T)]) (by simpa using c23)
      have hEi : (E.length : Int) = nC l := by omega
      have hTi : (T.length : Int) = l.length := by omega
      have hwant := want_eq hr hlen.1 hlen.2
      generalize holdsB l ties E T = hb at *
      have q3 := concat_ints [(false, [0]), (ze, E), (zt, T)] (by simp) (by simp [catL]; omega) (k := k) (by omega)
      have hcat : catL [(false, [0]), (ze, E), (zt, T)] = 0 :: (E ++ T) := by simp [catL]
      rw [hcat] at q3
      simp only [List.length_cons, List.length_nil, List.map_cons, List.map_nil, lv] at q3
      have hXl : (E ++ T).length = nC l + l.length := by rw [List.length_append]; omega
      obtain ⟨n, hn0⟩ : ∃ n, (E ++ T).length = n := ⟨_, rfl⟩
      have hn : (0 :: (E ++ T)).length = n + 1 := by rw [List.length_cons, hn0]
      rw [hn0] at q3
      have hnn : n + 1 = nV l := by rw [← hn]; unfold nV; rw [List.length_cons, List.length_append]; omega
      have hn53 := nV_le hr
      have hfit := fit hr
      have c25 : evF Try.prog Γ (k + 1) 25 [roV z l.length (flatE eventE l), roV z2 ties.length (flatE tieE ties)] [] = some (.tup [ownV true 0 0 (bds l ties).length 3, .int .i64 (nV l)], [ownB true (bds l ties).length (flatE bE (bds l ties))]) := by
        by_cases hne : l = []
        · subst hne
          have htn : ties = [] := by
            cases ties with
            | nil => rfl
            | cons t ts => have := hr.tie t (by simp); simp at this; omega
          subst htn
          exact evF_mono (show 60 ≤ k + 1 by omega) _ _ _ _ (bounds_nil z z2)
        · have hp : 0 < (bds l ties).length := by
            have hlp : 0 < l.length := List.length_pos_iff.2 hne
            have : (⟨0, 1, 4294967295⟩ : Bd) ∈ bds l ties := hfit.out 1 (by omega) (by unfold nV; omega)
            exact List.length_pos_of_mem this
          rw [ownV_pos' hp, ownB_pos' hp]
          exact bounds_ne l ties z z2 hr hne (k := k) (by omega)
      have p25 := fun H => callPlain_tup (E := bE) (call := evF Try.prog Γ (k + 1)) (H := H) (f := 25) (args := [roV z l.length (flatE eventE l), roV z2 ties.length (flatE tieE ties)]) (by simpa using c25)
      have hat := hfit.at_
      have hlen2 : (bds l ties).length ≤ 400 := by
        have h1 := hr.hl; have h2 := hr.ht; have h3 := hr.hc
        unfold bds; rw [List.length_append, List.length_append, bd0_length, bdE_length l _ (Nat.le_refl _), bdT_length]; unfold nC; omega
      generalize hXX : 0 :: (E ++ T) = X at *
      generalize bds l ties = B at *
      simp at q3
      have hmap : ([.sl 2 0 3 1] : List V).map (snap 4 [ownB true (nC l) (flatE strE (insF (clks l))), some (Blk.cells [V.int .i64 0] true), some (Blk.cells [V.sl 1 0 1 1, roV ze E.length (flatE (intE .i64) E), roV zt T.length (flatE (intE .i64) T)] true)]) = [.ros 3 [.ros 1 [.int .i64 0], roV ze E.length (flatE (intE .i64) E), roV zt T.length (flatE (intE .i64) T)]] := by simp
      have p22 := callPlain_own (E := intE .i64) (call := evF Try.prog Γ (k + 1)) (H := [ownB true (nC l) (flatE strE (insF (clks l))), some (Blk.cells [V.int .i64 0] true), some (Blk.cells [V.sl 1 0 1 1, roV ze E.length (flatE (intE .i64) E), roV zt T.length (flatE (intE .i64) T)] true)]) (f := 22) (args := [.sl 2 0 3 1]) (c := n + 1) (sz := 1) (l := X) (by rw [hmap]; simpa using q3)
      simp [-callPlain] at p22
      simp -implicitDefEqProofs [p23, p24, p4, p0, p11, p22, hEi, hTi, -callPlain]
      generalize hx : evLoopC _ _ _ _ _ _ _ _ _ _ = R
      apply loop_gen hx (fun (i : Nat) => (mkL 198 .junk [(0, roV z l.length (flatE eventE l)), (1, roV z2 ties.length (flatE tieE ties)), (4, .int .i64 a), (5, .int .i64 b), (13, .bool hb), (14, .int .i64 0), (15, .bool bb), (16, .int .i64 be), (19, .bool ((X.take i).all okW)), (20, .int .i64 0), (21, .sl 2 0 (n + 1) 1), (93, .sl 2 0 (n + 1) 1), (94, .int .i64 ((n : Int) + 1)), (95, .int .i64 i)], [none, none, some (.cells (flatE (intE .i64) X) false), none]))
        (fun i => i ≤ n + 1) (fun i => n + 1 - i) 0
      case hI => exact Nat.zero_le _
      case hq => omega
      case ht => simp -implicitDefEqProofs [liveOf]
      case round =>
        rintro i hi _
        clear hx
        have hi : i ≤ n + 1 := hi
        by_cases hil : i < n + 1
        · have hil2 : (i : Int) < (n : Int) + 1 := by omega
          have hix2 : i < X.length := by omega
          obtain ⟨R1, m1⟩ := drop_ints' X i hix2
          have e2 : addI .i64 (i : Int) 1 = (i : Int) + 1 := addI_i64 (by omega) (by omega)
          have hts := all_take_succ okW X i hix2
          generalize X[i] = v at *
          generalize (X.take i).all okW = w at *
          cases w with
          | false =>
            rw [Bool.false_and] at hts
            simp -implicitDefEqProofs [hil, hil2, m1, e2]
            exact rnd_next (i + 1) hil (by omega) (by simp -implicitDefEqProofs [liveOf, hts])
          | true =>
            rw [Bool.true_and] at hts
            by_cases k1 : -4294967295 ≤ v
            · by_cases k2 : v ≤ 4294967295
              · have hw : okW v = true := by simp [okW, k1, k2]
                rw [hw] at hts
                simp -implicitDefEqProofs [hil, hil2, m1, e2, k1, k2]
                exact rnd_next (i + 1) hil (by omega) (by simp -implicitDefEqProofs [liveOf, hts])
              · have hw : okW v = false := by simp [okW, k1, k2]
                rw [hw] at hts
                simp -implicitDefEqProofs [hil, hil2, m1, e2, k1, k2]
                exact rnd_next (i + 1) hil (by omega) (by simp -implicitDefEqProofs [liveOf, hts])
            · have hw : okW v = false := by simp [okW, k1]
              rw [hw] at hts
              simp -implicitDefEqProofs [hil, hil2, m1, e2, k1]
              exact rnd_next (i + 1) hil (by omega) (by simp -implicitDefEqProofs [liveOf, hts])
        · obtain rfl : i = n + 1 := by omega
          have hil2 : ¬ ((n : Int) + 1 < (n : Int) + 1) := by omega
          have htX : X.take (n + 1) = X := List.take_of_length_le (by omega)
          rw [htX]
          have hrng : X.all okW = true → ∀ q (h : q < X.length), -4294967295 ≤ X[q] ∧ X[q] ≤ 4294967295 := fun h q hq => by
            have := List.all_eq_true.1 h X[q] (List.getElem_mem hq)
            simp [okW] at this
            exact this
          have hgX : ∀ q (h : q < X.length), X.getD q 0 = X[q] := fun q h => by rw [List.getD_eq_getElem?_getD, List.getElem?_eq_getElem h]; rfl
          generalize hwx : X.all okW = wx at *
          rcases Nat.eq_zero_or_pos B.length with hB0 | hB0
          · have hBn : B = [] := List.length_eq_zero_iff.1 hB0
            subst hBn
            simp [-callPlain] at p25
            simp at hwant
            subst hwant
            simp -implicitDefEqProofs [hil2, p25, -callPlain]
            generalize hx : evLoopC _ _ _ _ _ _ _ _ _ _ = R
            apply loop_gen hx (fun (_ : Nat) => (mkL 198 .junk [(0, roV z l.length (flatE eventE l)), (1, roV z2 ties.length (flatE tieE ties)), (4, .int .i64 a), (5, .int .i64 b), (13, .bool wx), (14, .int .i64 0), (15, .bool bb), (16, .int .i64 be), (19, .bool wx), (20, .int .i64 0), (21, .sl 2 0 (n + 1) 1), (115, .nils), (116, .int .i64 0), (117, .int .i64 0)], [none, none, some (.cells (flatE (intE .i64) X) false), none]))
              (fun _ => True) (fun _ => 0) 0
            case hI => trivial
            case hq => omega
            case ht => simp -implicitDefEqProofs [liveOf]
            case round =>
              rintro j _ _
              clear hx
              rcases hTail with ⟨ho, rfl, rfl⟩ | ⟨ho, hfs, rfl, rfl⟩ | ⟨ho, hfs, rfl, p26⟩
              · unfold outside at ho
                by_cases k1 : a < 0
                · simp -implicitDefEqProofs [p5, p0, k1, hil2, -callPlain]
                · by_cases k2 : b < 0
                  · simp -implicitDefEqProofs [p5, p0, k1, k2, hil2, -callPlain]
                  · by_cases k3 : (l.length : Int) ≤ a
                    · simp -implicitDefEqProofs [p5, p0, k1, k2, k3, hil2, -callPlain]
                    · have k4 : (l.length : Int) ≤ b := by omega
                      simp -implicitDefEqProofs [p5, p0, k1, k2, k3, k4, hil2, -callPlain]
              · unfold outside at ho
                have k1 : ¬ a < 0 := by omega
                have k2 : ¬ b < 0 := by omega
                have k3 : ¬ (l.length : Int) ≤ a := by omega
                have k4 : ¬ (l.length : Int) ≤ b := by omega
                simp -implicitDefEqProofs [p5, p0, k1, k2, k3, k4, hfs, hil2, -callPlain]
              · unfold outside at ho
                have k1 : ¬ a < 0 := by omega
                have k2 : ¬ b < 0 := by omega
                have k3 : ¬ (l.length : Int) ≤ a := by omega
                have k4 : ¬ (l.length : Int) ≤ b := by omega
                simp -implicitDefEqProofs [p5, p0, p26, k1, k2, k3, k4, hfs, hil2, -callPlain]
          · obtain ⟨m, hm⟩ : ∃ m, B.length = m + 1 := ⟨B.length - 1, by omega⟩
            rw [hm] at p25
            simp [-callPlain] at p25
            simp -implicitDefEqProofs [hil2, p25, -callPlain]
            generalize hx : evLoopC _ _ _ _ _ _ _ _ _ _ = R
            apply loop_gen hx (fun (j : Nat) => (mkL 198 .junk [(0, roV z l.length (flatE eventE l)), (1, roV z2 ties.length (flatE tieE ties)), (4, .int .i64 a), (5, .int .i64 b), (13, .bool hb), (14, .int .i64 0), (15, .bool bb), (16, .int .i64 be), (19, .bool (wx && (B.take j).all (chk X))), (20, .int .i64 0), (21, .sl 2 0 (n + 1) 1), (115, .sl 3 0 (m + 1) 3), (116, .int .i64 ((m : Int) + 1)), (117, .int .i64 j)], [none, none, some (.cells (flatE (intE .i64) X) false), some (.cells (flatE bE B) false)]))
              (fun j => j ≤ m + 1) (fun j => m + 1 - j) 0
            case hI => exact Nat.zero_le _
            case hq => omega
            case ht => simp -implicitDefEqProofs [liveOf]
            case round =>
              rintro j hj _
              clear hx
              have hj : j ≤ m + 1 := hj
              by_cases hjl : j < m + 1
              · have hjl2 : (j : Int) < (m : Int) + 1 := by omega
                have hjB : j < B.length := by omega
                have ms := at_bds B j hjB
                have h3 : 3 ≤ B.length * 3 - j * 3 := by omega
                have e2 : addI .i64 (j : Int) 1 = (j : Int) + 1 := addI_i64 (by omega) (by omega)
                have hts := all_take_succ (chk X) B j hjB
                have hb2 := hat B[j] (List.getElem_mem hjB)
                generalize B[j] = y at *
                obtain ⟨hyf, hyt⟩ := hb2
                have hyf2 : y.f < X.length := by omega
                have hyt2 : y.t < X.length := by omega
                have hyf3 : (y.f : Int) < (n : Int) + 1 := by omega
                have hyt3 : (y.t : Int) < (n : Int) + 1 := by omega
                obtain ⟨R1, m1⟩ := drop_ints' X y.f hyf2
                obtain ⟨R2, m2⟩ := drop_ints' X y.t hyt2
                have hck : chk X y = decide (X[y.t] - X[y.f] ≤ y.n) := by unfold chk; rw [hgX _ hyf2, hgX _ hyt2]
                generalize (B.take j).all (chk X) = u at *
                cases hw2 : (wx && u) with
                | false =>
                  have hts2 : (wx && (B.take (j + 1)).all (chk X)) = false := by rw [hts, ← Bool.and_assoc, hw2]; rfl
                  simp -implicitDefEqProofs [hjl, hjl2, ms, h3, e2]
                  exact rnd_next (j + 1) hjl (by omega) (by simp -implicitDefEqProofs [liveOf, hts2])
                | true =>
                  have hwt : wx = true := by cases wx <;> simp_all
                  have hts2 : (wx && (B.take (j + 1)).all (chk X)) = decide (X[y.t] - X[y.f] ≤ y.n) := by rw [hts, ← Bool.and_assoc, hw2, Bool.true_and, hck]
                  have r1 := hrng hwt y.f hyf2
                  have r2 := hrng hwt y.t hyt2
                  generalize X[y.t] = xt at *
                  generalize X[y.f] = xf at *
                  have e3 : subI .i64 xt xf = xt - xf := by rw [subI_eq]; exact wrap_i64 (by omega) (by omega)
                  simp -implicitDefEqProofs [hjl, hjl2, ms, h3, e2, e3, m1, m2, hyf3, hyt3]
                  exact rnd_next (j + 1) hjl (by omega) (by simp -implicitDefEqProofs [liveOf, hts2])
              · obtain rfl : j = m + 1 := by omega
                have hjl2 : ¬ ((m : Int) + 1 < (m : Int) + 1) := by omega
                have htB : B.take (m + 1) = B := List.take_of_length_le (by omega)
                rw [htB, hwant]
                rcases hTail with ⟨ho, rfl, rfl⟩ | ⟨ho, hfs, rfl, rfl⟩ | ⟨ho, hfs, rfl, p26⟩
                · unfold outside at ho
                  by_cases k1 : a < 0
                  · simp -implicitDefEqProofs [p5, p0, k1, hjl2, -callPlain]
                  · by_cases k2 : b < 0
                    · simp -implicitDefEqProofs [p5, p0, k1, k2, hjl2, -callPlain]
                    · by_cases k3 : (l.length : Int) ≤ a
                      · simp -implicitDefEqProofs [p5, p0, k1, k2, k3, hjl2, -callPlain]
                      · have k4 : (l.length : Int) ≤ b := by omega
                        simp -implicitDefEqProofs [p5, p0, k1, k2, k3, k4, hjl2, -callPlain]
                · unfold outside at ho
                  have k1 : ¬ a < 0 := by omega
                  have k2 : ¬ b < 0 := by omega
                  have k3 : ¬ (l.length : Int) ≤ a := by omega
                  have k4 : ¬ (l.length : Int) ≤ b := by omega
                  simp -implicitDefEqProofs [p5, p0, k1, k2, k3, k4, hfs, hjl2, -callPlain]
                · unfold outside at ho
                  have k1 : ¬ a < 0 := by omega
                  have k2 : ¬ b < 0 := by omega
                  have k3 : ¬ (l.length : Int) ≤ a := by omega
                  have k4 : ¬ (l.length : Int) ≤ b := by omega
                  simp -implicitDefEqProofs [p5, p0, p26, k1, k2, k3, k4, hfs, hjl2, -callPlain]
    · rw [if_neg hlen] at c23
      have p23 := fun H => callPlain_tup2 (call := evF Try.prog Γ (k + 1)) (H := H) (f := 23) (args := [roV z l.length (flatE eventE l), roV z2 ties.length (flatE tieE ties), roV ze E.length (flatE (intE .i64) E), roV zt T.length (flatE (intE .i64) T)]) (by simpa using c23)
      by_cases h4 : E.length = nC l
      · have h5 : ¬ (T.length : Int) = l.length := by omega
        have h6 : (E.length : Int) = nC l := by omega
        rcases hTail with ⟨ho, rfl, rfl⟩ | ⟨ho, hfs, rfl, rfl⟩ | ⟨ho, hfs, rfl, p26⟩
        · unfold outside at ho
          by_cases k1 : a < 0
          · simp -implicitDefEqProofs [p5, p0, k1, p23, p24, p4, p11, h5, h6, -callPlain]
          · by_cases k2 : b < 0
            · simp -implicitDefEqProofs [p5, p0, k1, k2, p23, p24, p4, p11, h5, h6, -callPlain]
            · by_cases k3 : (l.length : Int) ≤ a
              · simp -implicitDefEqProofs [p5, p0, k1, k2, k3, p23, p24, p4, p11, h5, h6, -callPlain]
              · have k4 : (l.length : Int) ≤ b := by omega
                simp -implicitDefEqProofs [p5, p0, k1, k2, k3, k4, p23, p24, p4, p11, h5, h6, -callPlain]
        · unfold outside at ho
          have k1 : ¬ a < 0 := by omega
          have k2 : ¬ b < 0 := by omega
          have k3 : ¬ (l.length : Int) ≤ a := by omega
          have k4 : ¬ (l.length : Int) ≤ b := by omega
          simp -implicitDefEqProofs [p5, p0, k1, k2, k3, k4, hfs, p23, p24, p4, p11, h5, h6, -callPlain]
        · unfold outside at ho
          have k1 : ¬ a < 0 := by omega
          have k2 : ¬ b < 0 := by omega
          have k3 : ¬ (l.length : Int) ≤ a := by omega
          have k4 : ¬ (l.length : Int) ≤ b := by omega
          simp -implicitDefEqProofs [p5, p0, p26, k1, k2, k3, k4, hfs, p23, p24, p4, p11, h5, h6, -callPlain]
      · have h6 : ¬ (E.length : Int) = nC l := by omega
        rcases hTail with ⟨ho, rfl, rfl⟩ | ⟨ho, hfs, rfl, rfl⟩ | ⟨ho, hfs, rfl, p26⟩
        · unfold outside at ho
          by_cases k1 : a < 0
          · simp -implicitDefEqProofs [p5, p0, k1, p23, p24, p4, p11, h6, -callPlain]
          · by_cases k2 : b < 0
            · simp -implicitDefEqProofs [p5, p0, k1, k2, p23, p24, p4, p11, h6, -callPlain]
            · by_cases k3 : (l.length : Int) ≤ a
              · simp -implicitDefEqProofs [p5, p0, k1, k2, k3, p23, p24, p4, p11, h6, -callPlain]
              · have k4 : (l.length : Int) ≤ b := by omega
                simp -implicitDefEqProofs [p5, p0, k1, k2, k3, k4, p23, p24, p4, p11, h6, -callPlain]
        · unfold outside at ho
          have k1 : ¬ a < 0 := by omega
          have k2 : ¬ b < 0 := by omega
          have k3 : ¬ (l.length : Int) ≤ a := by omega
          have k4 : ¬ (l.length : Int) ≤ b := by omega
          simp -implicitDefEqProofs [p5, p0, k1, k2, k3, k4, hfs, p23, p24, p4, p11, h6, -callPlain]
        · unfold outside at ho
          have k1 : ¬ a < 0 := by omega
          have k2 : ¬ b < 0 := by omega
          have k3 : ¬ (l.length : Int) ≤ a := by omega
          have k4 : ¬ (l.length : Int) ≤ b := by omega
          simp -implicitDefEqProofs [p5, p0, p26, k1, k2, k3, k4, hfs, p23, p24, p4, p11, h6, -callPlain]
  · unfold holdsR at c23
    rw [if_neg hf] at c23
    unfold beforeR at c24
    rw [if_neg hf] at c24
    simp only at c23 c24
    simp -implicitDefEqProofs [c0, c4, c23, c24, hf]
end Go.Ev.Try

/-
  THE ASK SEAT: the reference's condNodes (own work).
-/
import Derived.Test.YtmcakfjbefelgaaDoorAkI
set_option linter.unusedSimpArgs false
set_option linter.unusedVariables false
set_option maxRecDepth 100000
set_option maxHeartbeats 4000000
namespace Go.Ev.Tryd
open Go Go.Ev Go.Proofs

theorem tkC (l : List Cond) (n : Nat) (h : l.length = n) : List.take (n * 5) (flatE condE l) = flatE condE l := by rw [List.take_of_length_le]; simp [h]
theorem nodes_ok : ∀ (N : Nat) (c : Cond), wt c ≤ N → N ≤ 1000000000000 → ∀ {k : Nat}, wt c + 20 < k → ∃ ex, evF Tryd.prog Γ (k + 1) 27 [.agg (condE.f c)] [] = some (.sl 0 0 (sizeC c) 5, some (.cells (flatE condE (nodesC c)) ex) :: (if ex then [none] else [])) := by
  intro N
  induction N with
  | zero => intro c h; have := wt_eq c; omega
  | succ N ih =>
    intro c hc hN k hk
    have hkl := kids_wt c
    have hsz := sizeC_wt c
    have hse := sizeC_eq c
    have hne := nodesC_eq c
    rw [hse] at hsz
    have ih2 : ∀ (i : Nat) (h : i < c.kids.length), ∃ ex, evF Tryd.prog Γ k 27 [.agg (condE.f c.kids[i])] [] = some (.sl 0 0 (sizeC c.kids[i]) 5, some (.cells (flatE condE (nodesC c.kids[i])) ex) :: (if ex then [none] else [])) := fun i h => by
      have h1 := kid_wt (List.getElem_mem h)
      obtain ⟨k, rfl⟩ : ∃ j, k = j + 1 := ⟨k - 1, by omega⟩
      exact ih _ (by omega) (by omega) (by omega)
    rw [hse, hne]
    rw [b27 (fun _ _ => rfl) _ _ (by simp)]
    have hf := condE_f c
    rw [flatE_cons]
    generalize hK : c.kids = K at *
    rw [hf]
    clear hf hse ih hne hK
    cases hK0 : K.length with
    | zero =>
      obtain rfl : K = [] := List.length_eq_zero_iff.1 hK0
      refine ⟨true, ?_⟩
      cases hz : c.z
      · simp -implicitDefEqProofs [sizeCs, nodesCs]
        generalize hx : evLoopC _ _ _ _ _ _ _ _ _ _ = R
        apply loop_gen hx (fun i : Nat => (mkL 21 .junk [(3, .sl 0 0 1 5), (9, .ros 0 []), (10, .int .i64 0), (11, .int .i64 0)], [some (.cells [.int .i64 c.op, .str c.s, .int .i64 c.low, .int .i64 c.high, .ros 0 []] true), none, none])) (fun i => True) (fun i => 0) 0
        case hI => trivial
        case hq => omega
        case ht => simp -implicitDefEqProofs [liveOf]
        case round =>
          rintro i hi _
          clear hx
          simp -implicitDefEqProofs
      · simp -implicitDefEqProofs [sizeCs, nodesCs]
        generalize hx : evLoopC _ _ _ _ _ _ _ _ _ _ = R
        apply loop_gen hx (fun i : Nat => (mkL 21 .junk [(3, .sl 0 0 1 5), (9, .nils), (10, .int .i64 0), (11, .int .i64 0)], [some (.cells [.int .i64 c.op, .str c.s, .int .i64 c.low, .int .i64 c.high, .nils] true), none, none])) (fun i => True) (fun i => 0) 0
        case hI => trivial
        case hq => omega
        case ht => simp -implicitDefEqProofs [liveOf]
        case round =>
          rintro i hi _
          clear hx
          simp -implicitDefEqProofs
    | succ m =>
      refine ⟨false, ?_⟩
      simp -implicitDefEqProofs
      generalize hx : evLoopC _ _ _ _ _ _ _ _ _ _ = R
      apply loop_gen hx (fun i : Nat => match i with
          | 0 => (mkL 21 .junk [(3, .sl 0 0 1 5), (9, .ros (m + 1) (flatE condE K)), (10, .int .i64 ((m : Int) + 1)), (11, .int .i64 0)], [some (.cells [.int .i64 c.op, .str c.s, .int .i64 c.low, .int .i64 c.high, .ros (m + 1) (flatE condE K)] true), none, none])
          | i + 1 => (mkL 21 .junk [(3, .sl 0 0 (1 + sizeCs (K.take (i + 1))) 5), (9, .ros (m + 1) (flatE condE K)), (10, .int .i64 ((m : Int) + 1)), (11, .int .i64 ((i : Int) + 1))], [some (.cells (.int .i64 c.op :: .str c.s :: .int .i64 c.low :: .int .i64 c.high :: .ros (m + 1) (flatE condE K) :: flatE condE (nodesCs (K.take (i + 1)))) false), none]))
        (fun i => i ≤ m + 1) (fun i => m + 1 - i) 0
      case hI => exact Nat.zero_le _
      case hq => omega
      case ht => simp -implicitDefEqProofs [liveOf]
      case round =>
        rintro i hi _
        have hi : i ≤ m + 1 := hi
        clear hx
        by_cases hlt : i < m + 1
        · have hltK : i < K.length := by omega
          have hlt2 : (i : Int) < (m : Int) + 1 := by omega
          have hat := at_cond' K i hltK
          have hs : sizeCs (K.take (i + 1)) = sizeCs (K.take i) + sizeC K[i] := by rw [List.take_succ_eq_append_getElem hltK, sizeCs_snoc]
          have hn : nodesCs (K.take (i + 1)) = nodesCs (K.take i) ++ nodesC K[i] := by rw [List.take_succ_eq_append_getElem hltK, nodesCs_snoc]
          have hle := sizeCs_take_le K (i + 1)
          have h5 : 5 ≤ K.length * 5 - i * 5 := by omega
          obtain ⟨ex, c1⟩ := ih2 i hltK
          have ht := tkC (nodesC K[i]) _ (nodesC_len K[i])
          have hnx := nodesC_len K[i]
          have hpos : 0 < sizeC K[i] := by have := sizeC_eq K[i]; omega
          have hb : (1 + sizeCs (K.take i) + sizeC K[i]) * 64 ≤ 140737488355328 := by omega
          have hnl := nodesCs_len (K.take i)
          rw [condE_f] at hat c1
          generalize K[i] = x at *
          obtain ⟨p, hp⟩ : ∃ p, sizeC x = p + 1 := ⟨sizeC x - 1, by omega⟩
          rw [hp] at c1 ht hb hs hnx
          cases i with
          | zero =>
            have e2 : addI .i64 0 1 = 1 := addI_i64 (by omega) (by omega)
            simp [sizeCs, nodesCs] at hat hs hn hb hle
            have h5' : 5 ≤ K.length * 5 := by omega
            have e3 : (1 + (p + 1)) * 64 ≤ 140737488355328 := by omega
            cases ex
            · simp at c1
              simp -implicitDefEqProofs [hlt2, e2, hat, h5', c1, ht, e3, hnx]
              exact rnd_next 1 (by simp) (by omega) (by simp -implicitDefEqProofs [liveOf, hs, hn])
            · simp at c1
              simp -implicitDefEqProofs [hlt2, e2, hat, h5', c1, ht, e3, hnx]
              exact rnd_next 1 (by simp) (by omega) (by simp -implicitDefEqProofs [liveOf, hs, hn])
          | succ i =>
            have e2 : addI .i64 ((i : Int) + 1) 1 = (i : Int) + 1 + 1 := addI_i64 (by omega) (by omega)
            have hq0 : (0 : Int) ≤ (i : Int) + 1 := by omega
            have hlt3 : i < m := by omega
            have tk0 : List.take ((1 + sizeCs (K.take (i + 1))) * 5) (V.int .i64 c.op :: .str c.s :: .int .i64 c.low :: .int .i64 c.high :: .ros (m + 1) (flatE condE K) :: flatE condE (nodesCs (K.take (i + 1)))) = V.int .i64 c.op :: .str c.s :: .int .i64 c.low :: .int .i64 c.high :: .ros (m + 1) (flatE condE K) :: flatE condE (nodesCs (K.take (i + 1))) := by
              rw [List.take_of_length_le]; simp [hnl]; omega
            have hln : (1 + sizeCs (K.take (i + 1))) * 5 = sizeCs (K.take (i + 1)) * 5 + 1 + 1 + 1 + 1 + 1 := by omega
            cases ex
            · simp at c1
              simp -implicitDefEqProofs [hlt, hlt2, hlt3, hq0, e2, hat, h5, c1, ht, hb, tk0, hnx, hnl, hln]
              exact rnd_next (i + 1 + 1) (by simp; omega) (by omega) (by simp -implicitDefEqProofs [liveOf, hs, hn, Nat.add_assoc])
            · simp at c1
              simp -implicitDefEqProofs [hlt, hlt2, hlt3, hq0, e2, hat, h5, c1, ht, hb, tk0, hnx, hnl, hln]
              exact rnd_next (i + 1 + 1) (by simp; omega) (by omega) (by simp -implicitDefEqProofs [liveOf, hs, hn, Nat.add_assoc])
        · obtain rfl : i = m + 1 := by omega
          have ht : K.take (m + 1) = K := List.take_of_length_le (by omega)
          simp -implicitDefEqProofs [ht]
end Go.Ev.Tryd

/-
  THE ASK SEAT: the reference's AskFault (own work).
-/
import Derived.Test.YtmcakfjbefelgaaDoorAkK
import Derived.Test.YtmcakfjbefelgaaDoorAkH
set_option linter.unusedSimpArgs false
set_option linter.unusedVariables false
set_option maxRecDepth 100000
set_option maxHeartbeats 4000000
namespace Go.Ev.Tryd
open Go Go.Ev Go.Proofs

theorem at_nodes (l : List Cond) (i : Nat) (h : i < l.length) : List.take 5 (List.drop (i * 5) (flatE condE l)) = condE.f l[i] := at_flatE condE rfl l i h
theorem firstF_cons (c : Cond) (l : List Cond) : firstF (c :: l) = if formC c = 0 then firstF l else formC c := rfl
theorem fault_ok (vs : List Cond) (ls : List Link) (zv zl : Bool) (most : Int) (hw : wts vs ≤ 1000000000000) (hls : ls.length ≤ 1000000000000) {k : Nat} (hk : wts vs + ls.length + 400 < k) :
    evF Tryd.prog Γ (k + 1) 11 [.agg [roV zv vs.length (flatE condE vs), roV zl ls.length (flatE linkE ls), .int .i64 most]] [] = some (.int .i64 (checkQ vs ls most), []) := by
  obtain ⟨k, rfl⟩ : ∃ j, k = j + 1 := ⟨k - 1, by omega⟩
  have hvl := wts_len vs
  have hsw := sizeCs_wts vs
  rw [b11 (fun _ _ => rfl) _ _ (by simp)]
  simp -implicitDefEqProofs
  generalize hx : evLoopC _ _ _ _ _ _ _ _ _ _ = R
  apply loop_gen hx (fun i : Nat => (mkL 109 .junk [(1, .ptr 0 0), (3, ownV true 1 0 (sizeCs (vs.take i)) 5), (12, roV zv vs.length (flatE condE vs)), (13, .int .i64 vs.length), (14, .int .i64 i)], [some (.cells [roV zv vs.length (flatE condE vs), roV zl ls.length (flatE linkE ls), .int .i64 most] true), ownB true (sizeCs (vs.take i)) (flatE condE (nodesCs (vs.take i))), none, none, none]))
    (fun i => i ≤ vs.length) (fun i => vs.length - i) 0
  case hI => exact Nat.zero_le _
  case hq => omega
  case ht => simp -implicitDefEqProofs [liveOf, sizeCs]
  case round =>
    rintro i hi _
    have hi : i ≤ vs.length := hi
    clear hx
    by_cases hlt : i < vs.length
    · have hlt2 : (i : Int) < vs.length := by omega
      have e2 : addI .i64 (i : Int) 1 = (i : Int) + 1 := addI_i64 (by omega) (by omega)
      have hat := at_cond' vs i hlt
      have hs : sizeCs (vs.take (i + 1)) = sizeCs (vs.take i) + sizeC vs[i] := by rw [List.take_succ_eq_append_getElem hlt, sizeCs_snoc]
      have hn : nodesCs (vs.take (i + 1)) = nodesCs (vs.take i) ++ nodesC vs[i] := by rw [List.take_succ_eq_append_getElem hlt, nodesCs_snoc]
      have hle := sizeCs_take_le vs (i + 1)
      have h5 : 5 ≤ vs.length * 5 - i * 5 := by omega
      have hwi := wts_at hlt
      obtain ⟨ex, c1⟩ := nodes_ok (wt vs[i]) vs[i] (Nat.le_refl _) (by omega) (k := k) (by omega)
      have ht := tkC (nodesC vs[i]) _ (nodesC_len vs[i])
      have hnx := nodesC_len vs[i]
      have hpos : 0 < sizeC vs[i] := by have := sizeC_eq vs[i]; omega
      have hnl := nodesCs_len (vs.take i)
      have hb : (sizeCs (vs.take i) + sizeC vs[i]) * 64 ≤ 140737488355328 := by omega
      rw [condE_f] at hat c1
      generalize vs[i] = x at *
      obtain ⟨p, hp⟩ : ∃ p, sizeC x = p + 1 := ⟨sizeC x - 1, by omega⟩
      rw [hp] at c1 ht hb hs hnx
      generalize hS1 : sizeCs (vs.take (i + 1)) = S1 at *
      generalize hN1 : nodesCs (vs.take (i + 1)) = N1 at *
      cases hS0 : sizeCs (vs.take i) with
      | zero =>
        rw [hS0] at hs hnl hb
        have hN0 : nodesCs (vs.take i) = [] := List.length_eq_zero_iff.1 hnl
        rw [hN0] at hn ⊢
        simp at hs hn hb
        have hb' : (p + 1) * 64 ≤ 140737488355328 := by omega
        cases ex
        · simp at c1
          simp -implicitDefEqProofs [hlt, hlt2, e2, hat, h5, c1, ht, hnx, hb']
          exact rnd_next (i + 1) hlt (by omega) (by simp -implicitDefEqProofs [liveOf, hS1, hN1, hs, hn])
        · simp at c1
          simp -implicitDefEqProofs [hlt, hlt2, e2, hat, h5, c1, ht, hnx, hb']
          exact rnd_next (i + 1) hlt (by omega) (by simp -implicitDefEqProofs [liveOf, hS1, hN1, hs, hn])
      | succ q =>
        rw [hS0] at hs hnl hb
        have op : ownV true 1 0 (q + 1 + (p + 1)) 5 = .sl 1 0 (q + 1 + (p + 1)) 5 := ownV_pos (by omega)
        have ob : ∀ cs, ownB true (q + 1 + (p + 1)) cs = some (.cells cs false) := fun cs => ownB_pos (by omega)
        generalize nodesCs (vs.take i) = N0 at *
        cases ex
        · simp at c1
          simp -implicitDefEqProofs [hlt, hlt2, e2, hat, h5, c1, ht, hnx, hnl, hb]
          exact rnd_next (i + 1) hlt (by omega) (by simp -implicitDefEqProofs [liveOf, hS1, hN1, hs, hn, op, ob])
        · simp at c1
          simp -implicitDefEqProofs [hlt, hlt2, e2, hat, h5, c1, ht, hnx, hnl, hb]
          exact rnd_next (i + 1) hlt (by omega) (by simp -implicitDefEqProofs [liveOf, hS1, hN1, hs, hn, op, ob])
    · obtain rfl : i = vs.length := by omega
      rw [List.take_length]
      have hnl := nodesCs_len vs
      have hnf := nodesCs_first vs
      have hnw := nodesCs_wt vs
      generalize hQ : checkQ vs ls most = Q
      unfold checkQ at hQ
      by_cases a1 : 60 < sizeCs vs
      · have a1' : (60 : Int) < sizeCs vs := by omega
        rw [if_pos (.inl a1)] at hQ
        simp -implicitDefEqProofs [a1', ← hQ]
      have a1' : ¬ (60 : Int) < sizeCs vs := by omega
      by_cases a2 : 3 < vs.length
      · have a2' : (3 : Int) < vs.length := by omega
        rw [if_pos (.inr (.inl a2))] at hQ
        simp -implicitDefEqProofs [a1', a2', ← hQ]
      have a2' : ¬ (3 : Int) < vs.length := by omega
      by_cases a3 : 6 < ls.length
      · have a3' : (6 : Int) < ls.length := by omega
        rw [if_pos (.inr (.inr a3))] at hQ
        simp -implicitDefEqProofs [a1', a2', a3', ← hQ]
      have a3' : ¬ (6 : Int) < ls.length := by omega
      rw [if_neg (by omega)] at hQ
      by_cases a4 : vs.length = 0
      · rw [if_pos a4] at hQ
        obtain rfl : vs = [] := List.length_eq_zero_iff.1 a4
        have hz : sizeCs [] = 0 := rfl
        simp -implicitDefEqProofs [a1', a2', a3', hz, ← hQ]
      rw [if_neg a4] at hQ
      have hposS : 0 < sizeCs vs := by
        cases vs with
        | nil => simp at a4
        | cons v vs => have := sizeC_eq v; simp only [sizeCs]; omega
      obtain ⟨q, hq⟩ : ∃ q, sizeCs vs = q + 1 := ⟨sizeCs vs - 1, by omega⟩
      rw [hq] at a1' hnl ⊢
      have a1'' : ¬ (60 : Int) < (q : Int) + 1 := by omega
      have a4' : ¬ (q : Int) + 1 = 0 := by omega
      generalize hN : nodesCs vs = N at *
      simp -implicitDefEqProofs [a1'', a2', a3', a4']
      clear a1' a2' a3'
      generalize hy : evLoopC _ _ _ _ _ _ _ _ _ _ = R2
      apply loop_gen hy (fun i : Nat => (mkL 109 .junk [(1, .ptr 0 0), (41, .sl 1 0 (q + 1) 5), (42, .int .i64 ((q : Int) + 1)), (43, .int .i64 i)], [some (.cells [roV zv vs.length (flatE condE vs), roV zl ls.length (flatE linkE ls), .int .i64 most] true), some (.cells (flatE condE N) false), none, none]))
        (fun i => i ≤ N.length ∧ firstF (N.drop i) = condFs vs) (fun i => N.length - i) 0
      case hI => exact ⟨Nat.zero_le _, hnf⟩
      case hq => omega
      case ht => simp -implicitDefEqProofs [liveOf]
      case round =>
        rintro i ⟨hi, hF⟩ _
        clear hy
        by_cases hlt : i < N.length
        · have hlt2 : (i : Int) < (q : Int) + 1 := by omega
          have hlt3 : i < q + 1 := by omega
          have e2 : addI .i64 (i : Int) 1 = (i : Int) + 1 := addI_i64 (by omega) (by omega)
          have hat := at_nodes N i hlt
          rw [List.drop_eq_getElem_cons hlt, firstF_cons] at hF
          have h5 : 5 ≤ (q + 1) * 5 - i * 5 := by omega
          have hwi := hnw N[i] (List.getElem_mem hlt)
          have hws := wt_eq N[i]
          have c2 := node_ok N[i] (by omega) (k := k) (by omega)
          rw [condE_f] at hat c2
          generalize N[i] = x at *
          generalize formC x = fx at *
          by_cases hx0 : fx = 0
          · rw [if_pos hx0] at hF
            simp -implicitDefEqProofs [hlt, hlt2, hlt3, hnl, e2, hat, h5, c2, hx0]
            exact rnd_next (i + 1) ⟨by omega, hF⟩ (by omega) (by simp -implicitDefEqProofs [liveOf])
          · rw [if_neg hx0] at hF
            rw [← hF, if_pos hx0] at hQ
            simp -implicitDefEqProofs [hlt, hlt2, hlt3, hnl, e2, hat, h5, c2, hx0, ← hQ]
        · obtain rfl : i = N.length := by omega
          rw [List.drop_length] at hF
          have hF0 : condFs vs = 0 := hF.symm
          rw [if_neg (by rw [hF0]; simp)] at hQ
          simp -implicitDefEqProofs [hnl]
          generalize hy : evLoopC _ _ _ _ _ _ _ _ _ _ = R3
          apply loop_gen hy (fun i : Nat => (mkL 109 .junk [(1, .ptr 0 0), (54, roV zl ls.length (flatE linkE ls)), (55, .int .i64 ls.length), (56, .int .i64 i)], [some (.cells [roV zv vs.length (flatE condE vs), roV zl ls.length (flatE linkE ls), .int .i64 most] true), none, none, none]))
            (fun i => i ≤ ls.length ∧ linkFs vs.length (ls.drop i) = linkFs vs.length ls) (fun i => ls.length - i) 0
          case hI => exact ⟨Nat.zero_le _, rfl⟩
          case hq => omega
          case ht => simp -implicitDefEqProofs [liveOf]
          case round =>
            rintro i ⟨hi, hF⟩ _
            clear hy
            by_cases hlt : i < ls.length
            · have hlt2 : (i : Int) < ls.length := by omega
              have e2 : addI .i64 (i : Int) 1 = (i : Int) + 1 := addI_i64 (by omega) (by omega)
              have hat := at_link ls i hlt
              rw [List.drop_eq_getElem_cons hlt, linkFs] at hF
              have h5 : 3 ≤ ls.length * 3 - i * 3 := by omega
              generalize ls[i] = x at *
              have hlf : linkF vs.length x = linkF vs.length x := rfl
              conv at hlf => rhs; unfold linkF
              obtain ⟨o, a, b⟩ := x
              simp only at hlf hat
              generalize hvn : vs.length = n at *
              by_cases b1 : o < 0
              · rw [if_pos (.inl b1)] at hlf
                rw [hlf, if_neg (by simp)] at hF
                rw [← hF, if_pos (by simp)] at hQ
                simp -implicitDefEqProofs [hlt, hlt2, e2, hat, h5, b1, ← hQ]
              by_cases b2 : 3 < o
              · rw [if_pos (.inr (by omega))] at hlf
                rw [hlf, if_neg (by simp)] at hF
                rw [← hF, if_pos (by simp)] at hQ
                simp -implicitDefEqProofs [hlt, hlt2, e2, hat, h5, b1, b2, ← hQ]
              have b2' : ¬ 3 < o := b2
              rw [if_neg (by omega)] at hlf
              by_cases b3 : a < 0
              · rw [if_pos (by omega)] at hlf
                rw [hlf, if_neg (by simp)] at hF
                rw [← hF, if_pos (by simp)] at hQ
                simp -implicitDefEqProofs [hlt, hlt2, e2, hat, h5, b1, b2', b3, ← hQ]
              by_cases b4 : b < 0
              · rw [if_pos (by omega)] at hlf
                rw [hlf, if_neg (by simp)] at hF
                rw [← hF, if_pos (by simp)] at hQ
                simp -implicitDefEqProofs [hlt, hlt2, e2, hat, h5, b1, b2', b3, b4, ← hQ]
              by_cases b6 : (n : Int) ≤ a
              · rw [if_pos (by omega)] at hlf
                rw [hlf, if_neg (by simp)] at hF
                rw [← hF, if_pos (by simp)] at hQ
                simp -implicitDefEqProofs [hlt, hlt2, e2, hat, h5, b1, b2', b3, b4, b6, ← hQ]
              by_cases b7 : (n : Int) ≤ b
              · rw [if_pos (by omega)] at hlf
                rw [hlf, if_neg (by simp)] at hF
                rw [← hF, if_pos (by simp)] at hQ
                simp -implicitDefEqProofs [hlt, hlt2, e2, hat, h5, b1, b2', b3, b4, b6, b7, ← hQ]
              rw [if_neg (by omega)] at hlf
              by_cases b5 : a = b
              · rw [if_pos b5] at hlf
                rw [hlf, if_neg (by simp)] at hF
                rw [← hF, if_pos (by simp)] at hQ
                subst b5
                simp -implicitDefEqProofs [hlt, hlt2, e2, hat, h5, b1, b2', b3, b6, ← hQ]
              rw [if_neg b5] at hlf
              rw [hlf, if_pos rfl] at hF
              simp -implicitDefEqProofs [hlt, hlt2, e2, hat, h5, b1, b2', b3, b4, b6, b7, b5]
              exact rnd_next (i + 1) ⟨by omega, hF⟩ (by omega) (by simp -implicitDefEqProofs [liveOf])
            · obtain rfl : i = ls.length := by omega
              rw [List.drop_length] at hF
              have hF0 : linkFs vs.length ls = 0 := hF.symm
              rw [if_neg (by rw [hF0]; simp)] at hQ
              by_cases m1 : most ≤ 0
              · rw [if_pos (.inl (by omega))] at hQ
                simp -implicitDefEqProofs [m1, ← hQ]
              by_cases m2 : 2000 < most
              · rw [if_pos (.inr m2)] at hQ
                simp -implicitDefEqProofs [m1, m2, ← hQ]
              rw [if_neg (by omega)] at hQ
              simp -implicitDefEqProofs [m1, m2, ← hQ]
end Go.Ev.Tryd

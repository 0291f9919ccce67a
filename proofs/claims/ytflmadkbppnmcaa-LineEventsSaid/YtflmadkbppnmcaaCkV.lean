import Derived.Test.YtflmadkbppnmcaaCkU
set_option linter.unusedSimpArgs false
set_option linter.unusedVariables false
set_option maxRecDepth 100000
set_option maxHeartbeats 4000000
namespace Go.Ev.Try
open Go Go.Ev Go.Proofs
theorem build_ok (l : List Event) (ties : List Tie) (z z2 : Bool) (hr : Right l ties) (hne : l ≠ []) {k : Nat} (hk : 200 < k) :
    evF Try.prog Γ (k + 1) 53 [roV z l.length (flatE eventE l), roV z2 ties.length (flatE tieE ties)] [] = some (.sl 0 0 (nV l) 1, gridH (nV l) (matOf net0 (bds l ties))) := by
  obtain ⟨k, rfl⟩ : ∃ j, k = j + 2 := ⟨k - 2, by omega⟩
  have hL := hr.hl
  have hT := hr.ht
  have hC := hr.hc
  have cc := clocks_ok l z (by omega) (k := k + 1) (by omega)
  rw [names_eq] at cc
  have hcp : 0 < nC l := nC_pos hne
  have hn53 := nV_le hr
  have hCs := (insF_facts (clks l)).1
  have hnV : nV l = 1 + nC l + l.length := rfl
  have hix := fun e (he : e ∈ l) => ix_lt (l := l) (e := e) he
  have hat := fun e (he : e ∈ l) => ix_at (l := l) (e := e) he
  have fitL := fit hr
  rw [b53 (fun _ _ => rfl) _ _ (by simp)]
  unfold nC at hcp
  generalize hcl : (insF (clks l)).length = c at *
  obtain ⟨c, rfl⟩ : ∃ q, c = q + 1 := ⟨c - 1, by omega⟩
  simp at cc
  have hnc : nC l = c + 1 := hcl
  generalize hn : nV l = n at *
  have hn' : n = 1 + (c + 1) + l.length := by omega
  have e1 : addI .i64 1 ((c : Int) + 1) = 1 + ((c : Int) + 1) := addI_i64 (by omega) (by omega)
  have e2 : addI .i64 (1 + ((c : Int) + 1)) (l.length : Int) = (n : Int) := by rw [addI_i64 (by omega) (by omega)]; omega
  have hb2 : (n : Int) * 24 ≤ 140737488355328 := by omega
  have hb3 : (n : Int) ≤ 140737488355328 := by omega
  have hb4 : (n : Int) * 8 ≤ 140737488355328 := by omega
  have z1 := zeros_nils n
  have z2' := zeros_int n
  have hcells : (flatE strE (insF (clks l)) ++ flatE strE (List.replicate (l.length - (c + 1)) ByteArray.empty)).take (c + 1) = flatE strE (insF (clks l)) := by
    rw [List.take_append_of_le_length (by simp [hcl]), List.take_of_length_le (by simp [hcl])]
  simp -implicitDefEqProofs [cc, e1, e2, z1, hb2, hb3]
  generalize hB0 : (some (Blk.cells (flatE strE (insF (clks l)) ++ flatE strE (List.replicate (l.length - (c + 1)) ByteArray.empty)) false) : Option Blk) = B0
  generalize hB1 : (some (Blk.cells [V.sl 0 0 (c + 1) 1] true) : Option Blk) = B1
  generalize hx : evLoopC _ _ _ _ _ _ _ _ _ _ = R
  apply loop_gen hx (fun (a : Nat × Heap) => (mkL 123 .junk [(0, roV z l.length (flatE eventE l)), (1, roV z2 ties.length (flatE tieE ties)), (5, .ptr 1 0), (6, .int .i64 n), (7, .sl 2 0 n 1), (29, .int .i64 n), (30, .int .i64 a.1)], a.2))
    (fun a => a.1 ≤ n ∧ PG B0 B1 n a.1 net0 a.2) (fun a => n - a.1) (0, [B0, B1, some (.cells (outP n 0) true)])
  case hI => exact ⟨Nat.zero_le _, rfl, rfl, rfl, fun a h => by omega, rfl⟩
  case hq => simp only; omega
  case ht => simp -implicitDefEqProofs [liveOf, hB0, hB1]
  case round =>
    rintro ⟨i, H⟩ ⟨hi, pg⟩ _
    clear hx
    simp only at hi pg
    by_cases hlt : i < n
    · have hlt2 : (i : Int) < n := by omega
      have hl := pg.len
      have o1 := pg.out
      have oo := outP_length (n := n) (i := i) (by omega)
      have o2 : ∀ x, (H ++ [x])[2]? = some (some (.cells (outP n i) true)) := fun x => by rw [List.getElem?_append_left (by omega)]; exact o1
      have o3 := outP_set hlt
      obtain ⟨l3, o4⟩ := outP_drop hlt
      have hi3 : i + 1 ≤ n := hlt
      have pn := pg.next (fun _ => 0)
      generalize hG : (H ++ [rowB n fun _ => 0]).set 2 (some (.cells (outP n (i + 1)) true)) = G at pn
      have hG' : (H ++ [some (Blk.cells (rowC n fun _ => 0) true)]).set 2 (some (.cells (outP n (i + 1)) true)) = G := hG
      have g2 := pn.out
      have gr := pn.row i (by omega)
      simp only [rowB, if_true] at gr
      have gl := pn.len
      simp -implicitDefEqProofs [hlt, hlt2, hl, oo, o1, o2, o3, o4, hi3, z2', hb3, hb4, hG', g2, gr, gl, -getElem?_pos, List.getElem?_cons_zero]
      generalize hy : evLoopC _ _ _ _ _ _ _ _ _ _ = R2
      apply loop_gen hy (fun (a : Nat × Heap) => (mkL 123 .junk [(0, roV z l.length (flatE eventE l)), (1, roV z2 ties.length (flatE tieE ties)), (5, .ptr 1 0), (6, .int .i64 n), (7, .sl 2 0 n 1), (8, .int .i64 i), (29, .int .i64 n), (30, .int .i64 i), (42, .int .i64 n), (43, .int .i64 a.1)], a.2))
        (fun a => a.1 ≤ n ∧ PG B0 B1 n (i + 1) (fb i a.1) a.2) (fun a => n - a.1) (0, G)
      case hI => exact ⟨Nat.zero_le _, pn.congr fun a b ha hb => by simp [fb]⟩
      case hq => simp only; omega
      case ht => simp -implicitDefEqProofs [liveOf]
      case round =>
        rintro ⟨j, G⟩ ⟨hj, pg⟩ _
        clear hy
        simp only at hj pg
        have g2 := pg.out
        have gr := pg.row i (by omega)
        simp only [rowB] at gr
        have gl := pg.len
        have hi4 : 3 + i < 3 + (i + 1) := by omega
        by_cases hjl : j < n
        · have hjl2 : (j : Int) < n := by omega
          have hj3 : j + 1 ≤ n := hjl
          have e3 : addI .i64 (j : Int) 1 = (j : Int) + 1 := addI_i64 (by omega) (by omega)
          have pn := pg.fb_next hjl
          simp -implicitDefEqProofs [hlt, hlt2, hjl, hjl2, hj3, o4, g2, gr, gl, e3, hi4, -getElem?_pos, List.getElem?_cons_zero]
          exact rnd_next (j + 1, _) ⟨hjl, pn⟩ (by simp only; omega) (by simp -implicitDefEqProofs [liveOf, rowF])
        · obtain rfl : j = n := by omega
          have hjl2 : ¬ (j : Int) < (j : Int) := by omega
          have e3 : addI .i64 (i : Int) 1 = (i : Int) + 1 := addI_i64 (by omega) (by omega)
          have pn := pg.fb_end hlt
          simp -implicitDefEqProofs [hlt, hlt2, hjl2, hi3, o4, g2, gr, gl, e3, hi4, -getElem?_pos, List.getElem?_cons_zero]
          exact rnd_next (i + 1, _) ⟨hlt, pn⟩ (by simp only; omega) (by simp -implicitDefEqProofs [liveOf, rowF])
    · obtain rfl : i = n := by omega
      have hlt2 : ¬ (i : Int) < (i : Int) := by omega
      have sd : Side H B0 B1 i (matOf net0 (bd0 0)) := ⟨pg.b0, pg.b1, pg.grid⟩
      clear pg
      simp -implicitDefEqProofs [hlt2]
      generalize hx : evLoopC _ _ _ _ _ _ _ _ _ _ = R
      apply loop_gen hx (fun (a : Nat × Heap) => (mkL 123 .junk [(0, roV z l.length (flatE eventE l)), (1, roV z2 ties.length (flatE tieE ties)), (5, .ptr 1 0), (6, .int .i64 i), (7, .sl 2 0 i 1), (10, .int .i64 (a.1 + 1 : Nat))], a.2))
        (fun a => a.1 + 1 ≤ i ∧ Side a.2 B0 B1 i (matOf net0 (bd0 a.1))) (fun a => i - a.1) (0, H)
      case hI => exact ⟨by simp only; omega, sd⟩
      case hq => simp only; omega
      case ht => simp -implicitDefEqProofs [liveOf]
      case round =>
        rintro ⟨q, H⟩ ⟨hq, sd⟩ _
        clear hx
        simp only at hq sd
        by_cases hlt : q + 1 < i
        · have hlt2 : ((q + 1 : Nat) : Int) < i := by omega
          obtain ⟨H', c1, sd'⟩ := between_in sd (by omega) (i := 0) (j := q + 1) (by omega) hlt (-4294967295) 4294967295 (by omega) (k := k + 1) (by omega)
          rw [← matOf_append, ← bd0_succ] at sd'
          have hcast : ((q + 1 : Nat) : Int) = (q : Int) + 1 := by omega
          have z0 : ((0 : Nat) : Int) = 0 := rfl
          rw [z0, hcast] at c1
          rw [hcast] at hlt2
          have e3 : addI .i64 ((q : Int) + 1) 1 = (q : Int) + 1 + 1 := addI_i64 (by omega) (by omega)
          simp -implicitDefEqProofs [hlt2, c1, e3, -callWide]
          exact rnd_next (q + 1, _) ⟨by simp only; omega, sd'⟩ (by simp only; omega) (by simp -implicitDefEqProofs [liveOf])
        · have hqi : q = nC l + l.length := by omega
          have hlt2 : ¬ ((q : Int) + 1 < i) := by omega
          clear hq
          simp -implicitDefEqProofs [hlt2]
          generalize hx : evLoopC _ _ _ _ _ _ _ _ _ _ = R
          apply loop_gen hx (fun (a : Nat × Heap) => (mkL 123 .junk [(1, roV z2 ties.length (flatE tieE ties)), (5, .ptr 1 0), (7, .sl 2 0 i 1), (11, .fn (.func 77) [] [.ptr 1 0]), (69, roV z l.length (flatE eventE l)), (70, .int .i64 l.length), (71, .int .i64 a.1)], a.2))
            (fun a => a.1 ≤ l.length ∧ Side a.2 B0 B1 i (matOf net0 (bd0 q ++ bdE l a.1))) (fun a => l.length - a.1) (0, H)
          case hI => exact ⟨Nat.zero_le _, by simp only [bdE, List.range_zero, List.flatMap_nil, List.append_nil]; exact sd⟩
          case hq => simp only; omega
          case ht => simp -implicitDefEqProofs [liveOf]
          case round =>
            rintro ⟨e, H⟩ ⟨he, sd⟩ _
            clear hx
            simp only at he sd
            by_cases hel : e < l.length
            · have hel2 : (e : Int) < l.length := by omega
              have ms := at_events l e hel
              have h3 : 3 ≤ l.length * 3 - e * 3 := by omega
              have hs := bdE_succ l e hel
              have h1 := hix l[e] (List.getElem_mem hel)
              have h2 := hat l[e] (List.getElem_mem hel)
              have h4 := hr.ev l[e] (List.getElem_mem hel)
              have hS := sd.app [some (.cells [.str l[e].clock, .int .i64 l[e].show', .int .i64 l[e].wide'] true)]
              obtain ⟨H', c1, sd'⟩ := between_in hS (by omega) (i := 1 + ix l l[e]) (j := 1 + nC l + e) (by omega) (by omega) (l[e].show' - l[e].wide') (l[e].show' + l[e].wide') (by omega) (k := k + 1) (by omega)
              rw [← matOf_append, List.append_assoc, ← hs] at sd'
              have bs := bsearch_ok (insF (clks l)) hCs (ix l l[e]) h1 (by omega) (k := k + 1) (by omega)
              rw [h2] at bs
              clear hs h2
              generalize l[e] = x at *
              generalize hix' : ix l x = ip at *
              have b0 := sd.b0
              have b1 := sd.b1
              have hN := sd.len
              have hids := hS.lim
              generalize hHl : H.length = N at *
              have q0 : ∀ x, (H ++ [x])[0]? = some B0 := fun x => by rw [List.getElem?_append_left (by omega)]; exact b0
              have q1 : ∀ x, (H ++ [x])[1]? = some B1 := fun x => by rw [List.getElem?_append_left (by omega)]; exact b1
              have q2 : ∀ x, (H ++ [x])[N]? = some x := fun x => by rw [List.getElem?_append_right (by omega)]; simp [hHl]
              have q3 : ∀ x y, (H ++ [x]).set N y = H ++ [y] := fun x y => by rw [List.set_append_right _ _ (by omega)]; simp [hHl]
              have e3 : addI .i64 (e : Int) 1 = (e : Int) + 1 := addI_i64 (by omega) (by omega)
              rw [← hB0] at q0
              rw [← hB1] at q1
              have k1 : ((1 + ip : Nat) : Int) = 1 + (ip : Int) := by omega
              have k2 : ((1 + nC l + e : Nat) : Int) = 1 + ((c : Int) + 1) + e := by omega
              rw [k1, k2] at c1
              rw [hcl] at bs
              have ca : evF Try.prog Γ (k + 2) 77 [.int .i64 (e : Int), .ro [.ros (c + 1) (flatE strE (insF (clks l)))]] [] = some (.int .i64 (1 + ((c : Int) + 1) + e), []) := by
                rw [at_ok (c + 1) _ (e : Int) (by omega) (by omega)]
                simp only [atV]
                rw [if_neg (by omega)]
                congr 3
              have e4 : addI .i64 1 (ip : Int) = 1 + (ip : Int) := addI_i64 (by omega) (by omega)
              have e5 : addI .i64 x.show' x.wide' = x.show' + x.wide' := addI_i64 (by omega) (by omega)
              have e6 : subI .i64 x.show' x.wide' = x.show' - x.wide' := by rw [subI_eq]; exact wrap_i64 (by omega) (by omega)
              have hre := hS.grid.reach (by omega)
              have hids2 : (∀ a, a ∈ idsG 2 3 i → a < N + 1) = True := eq_true fun a ha => by have := hids a ha; simpa [hHl] using this
              simp -implicitDefEqProofs [hel, hel2, hHl, ms, h3, q0, q1, q2, q3, hcells, bs, ca, e3, e4, e5, e6, c1, hre, hids2, -callWide, -reach, -maskHeap, -mergeHeap, -getElem?_pos, List.getElem?_cons_zero]
              exact rnd_next (e + 1, _) ⟨by simp only; omega, sd'⟩ (by simp only; omega) (by simp -implicitDefEqProofs [liveOf])
            · obtain rfl : e = l.length := by omega
              have hel2 : ¬ (l.length : Int) < (l.length : Int) := by omega
              simp -implicitDefEqProofs [hel2]
              generalize hx : evLoopC _ _ _ _ _ _ _ _ _ _ = R
              apply loop_gen hx (fun (a : Nat × Heap) => (mkL 123 .junk [(7, .sl 2 0 i 1), (11, .fn (.func 77) [] [.ptr 1 0]), (101, roV z2 ties.length (flatE tieE ties)), (102, .int .i64 ties.length), (103, .int .i64 a.1)], a.2))
                (fun a => a.1 ≤ ties.length ∧ Side a.2 B0 B1 i (matOf net0 (bd0 q ++ (bdE l l.length ++ bdT (nC l) (ties.take a.1))))) (fun a => ties.length - a.1) (0, H)
              case hI => exact ⟨Nat.zero_le _, by simpa [bdT] using sd⟩
              case hq => simp only; omega
              case ht => simp -implicitDefEqProofs [liveOf]
              case round =>
                rintro ⟨e, H⟩ ⟨he, sd⟩ _
                clear hx
                simp only at he sd
                by_cases hel : e < ties.length
                · have hel2 : (e : Int) < ties.length := by omega
                  have ms := at_ties ties e hel
                  have h3 : 4 ≤ ties.length * 4 - e * 4 := by omega
                  have hs : bdT (nC l) (ties.take (e + 1)) = bdT (nC l) (ties.take e) ++ tieB (nC l) ties[e] := by
                    rw [List.take_succ_eq_append_getElem hel, bdT_snoc]
                  have h4 := hr.tie ties[e] (List.getElem_mem hel)
                  have hS := sd.app [some (.cells [.int .i64 ties[e].a, .int .i64 ties[e].b, .int .i64 ties[e].low, .int .i64 ties[e].high] true)]
                  have ha1 : atV (nC l) ties[e].a < i := by unfold atV; split <;> omega
                  have ha2 : atV (nC l) ties[e].b < i := by unfold atV; split <;> omega
                  obtain ⟨H', c1, sd'⟩ := between_in hS (by omega) ha1 ha2 ties[e].low ties[e].high (by omega) (k := k + 1) (by omega)
                  have hs2 : pair (atV (nC l) ties[e].a) (atV (nC l) ties[e].b) ties[e].low ties[e].high = tieB (nC l) ties[e] := rfl
                  rw [← matOf_append, hs2, List.append_assoc, List.append_assoc, ← hs] at sd'
                  have ca := at_ok (c + 1) (flatE strE (insF (clks l))) ties[e].a (by omega) (by omega) (k := k + 1)
                  have cb := at_ok (c + 1) (flatE strE (insF (clks l))) ties[e].b (by omega) (by omega) (k := k + 1)
                  rw [hnc] at c1
                  clear hs hs2
                  generalize ties[e] = x at *
                  have b0 := sd.b0
                  have b1 := sd.b1
                  have hN := sd.len
                  have hids := hS.lim
                  generalize hHl : H.length = N at *
                  have q0 : ∀ x, (H ++ [x])[0]? = some B0 := fun x => by rw [List.getElem?_append_left (by omega)]; exact b0
                  have q1 : ∀ x, (H ++ [x])[1]? = some B1 := fun x => by rw [List.getElem?_append_left (by omega)]; exact b1
                  have q2 : ∀ x, (H ++ [x])[N]? = some x := fun x => by rw [List.getElem?_append_right (by omega)]; simp [hHl]
                  have q3 : ∀ x y, (H ++ [x]).set N y = H ++ [y] := fun x y => by rw [List.set_append_right _ _ (by omega)]; simp [hHl]
                  have e3 : addI .i64 (e : Int) 1 = (e : Int) + 1 := addI_i64 (by omega) (by omega)
                  rw [← hB0] at q0
                  rw [← hB1] at q1
                  have hre := hS.grid.reach (by omega)
                  have hids2 : (∀ a, a ∈ idsG 2 3 i → a < N + 1) = True := eq_true fun a ha => by have := hids a ha; simpa [hHl] using this
                  simp -implicitDefEqProofs [hel, hel2, hHl, ms, h3, q0, q1, q2, q3, hcells, ca, cb, e3, c1, hre, hids2, -callWide, -reach, -maskHeap, -mergeHeap, -getElem?_pos, List.getElem?_cons_zero]
                  exact rnd_next (e + 1, _) ⟨by simp only; omega, sd'⟩ (by simp only; omega) (by simp -implicitDefEqProofs [liveOf])
                · obtain rfl : e = ties.length := by omega
                  have hel2 : ¬ (ties.length : Int) < (ties.length : Int) := by omega
                  have hf := finish_out sd.grid (by omega)
                  have ht : ties.take ties.length = ties := List.take_of_length_le (Nat.le_refl _)
                  rw [ht, hqi, ← List.append_assoc] at hf
                  simp -implicitDefEqProofs [hel2, -finish]
                  rw [hf]
                  rfl
end Go.Ev.Try

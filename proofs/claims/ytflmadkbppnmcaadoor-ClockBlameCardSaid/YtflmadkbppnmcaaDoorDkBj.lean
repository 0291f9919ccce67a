/-
  THE CLOCK DOOR SEAT (printed by wip/tools/port.py): Why (own work).
-/
import Derived.Test.YtflmadkbppnmcaaDoorDkBi
set_option linter.unusedSimpArgs false
set_option linter.unusedVariables false
set_option maxRecDepth 100000
set_option maxHeartbeats 4000000
namespace Go.Ev.Tryd
open Go Go.Ev Go.Proofs

/-- What Why returns. -/
def whyV (l : List Event) (ties : List Tie) : Option (V × Heap) :=
  if faultC l ties = 0 then if feas l ties = true then some (.tup [.nils, .int .i64 8], [none])
    else if ties.length = 0 then some (.tup [.nils, .int .i64 0], [none])
    else some (.tup [.sl 0 0 (chosen l ties ties.length).length 1, .int .i64 0], [some (.cells (flatE (intE .i64) (castL (chosen l ties ties.length) ++ List.replicate (ties.length - (chosen l ties ties.length).length) 0)) false)])
  else some (.tup [.nils, .int .i64 (faultC l ties)], [none])
theorem drop_castL (K : List Nat) (Z : List Int) (j : Nat) (h : j < K.length) : ∃ R, List.drop j (flatE (intE .i64) (castL K ++ Z)) = .int .i64 (K[j] : Int) :: R := by
  have h1 : List.drop j (flatE (intE .i64) (castL K ++ Z)) = flatE (intE .i64) ((K[j] : Int) :: ((castL K).drop (j + 1) ++ Z)) := by
    rw [drop_flatE1 (intE .i64) rfl, List.drop_append_of_le_length (by simp; omega), List.drop_eq_getElem_cons (by simpa using h)]
    simp [castL]
  exact ⟨flatE (intE .i64) ((castL K).drop (j + 1) ++ Z), by rw [h1]; rfl⟩
theorem why_ok (l : List Event) (ties : List Tie) (z z2 : Bool) (hl : l.length ≤ 8796093022206) (ht : ties.length ≤ 8796093022206) {k : Nat} (hk : l.length + 500 < k) :
    evF Tryd.prog Γ (k + 1) 14 [roV z l.length (flatE eventE l), roV z2 ties.length (flatE tieE ties)] [] = whyV l ties := by
  obtain ⟨k, rfl⟩ : ∃ j, k = j + 1 := ⟨k - 1, by omega⟩
  have c12 := check_ok l ties z z2 hl ht (k := k) (by omega)
  have c12' := callPlain_int (call := evF Tryd.prog Γ (k + 1)) (H := []) (f := 23) (args := [roV z l.length (flatE eventE l), roV z2 ties.length (flatE tieE ties)]) (by simpa using c12)
  rw [b14 (fun _ _ => rfl) _ _ (by simp)]
  unfold whyV
  by_cases hf : faultC l ties = 0
  · have hr := right_of hf
    have hn := nV_le hr
    have hT := hr.ht
    obtain ⟨d', cs, hd⟩ := solved_ok l ties z z2 hr (k := k) (by omega)
    obtain ⟨H1, c36, g1, hl1, _⟩ := callPlain_grid (call := evF Tryd.prog Γ (k + 1)) (H := []) (args := [roV z l.length (flatE eventE l), roV z2 ties.length (flatE tieE ties)]) (by simpa using cs) rfl (r' := .tup [.sl 0 0 (nV l) 1, .bool (closed (nV l) (bds l ties)).isSome]) (by simp)
    rw [hf] at c12'
    rw [if_pos hf]
    simp only [List.length_nil, Nat.zero_add] at hl1 g1
    have hfe : (closed (nV l) (bds l ties)).isSome = feas l ties := rfl
    rw [hfe] at c36
    cases hfs : feas l ties with
    | true =>
      rw [hfs] at c36
      simp -implicitDefEqProofs [c12', c36, -callPlain]
    | false =>
      rw [hfs] at c36
      by_cases htl : ties = []
      · subst htl
        have hN : H1[nV l + 1]? = none := List.getElem?_eq_none (by omega)
        simp [-callPlain] at c12' c36
        simp -implicitDefEqProofs [c12', c36, -callPlain]
        generalize hx : evLoopC _ _ _ _ _ _ _ _ _ _ = R
        apply loop_gen hx (fun (_ : Nat) => (mkL 77 .junk [(0, roV z l.length (flatE eventE l)), (1, roV z2 0 []), (9, .nils), (31, .int .i64 0), (32, .int .i64 0)], [none, none, none])) (fun _ => True) (fun _ => 0) 0
        case hI => trivial
        case hq => omega
        case ht => simp -implicitDefEqProofs [liveOf, hl1, hN, -getElem?_pos]
        case round =>
          rintro q _ _
          clear hx
          simp -implicitDefEqProofs
          generalize hy : evLoopC _ _ _ _ _ _ _ _ _ _ = R
          apply loop_gen hy (fun (_ : Nat) => (mkL 77 .junk [(0, roV z l.length (flatE eventE l)), (1, roV z2 0 []), (9, .nils), (11, .int .i64 0)], [none, none, none])) (fun _ => True) (fun _ => 0) 0
          case hI => trivial
          case hq => omega
          case ht => simp -implicitDefEqProofs [liveOf]
          case round =>
            rintro q _ _
            clear hy
            simp -implicitDefEqProofs
      · have htp : 0 < ties.length := List.length_pos_iff.2 htl
        have htn : ¬ ties.length = 0 := by omega
        rw [if_neg (by simp), if_neg htn]
        have hN : H1[nV l + 1]? = none := List.getElem?_eq_none (by omega)
        simp -implicitDefEqProofs [c12', c36, -callPlain]
        generalize hx : evLoopC _ _ _ _ _ _ _ _ _ _ = R
        apply loop_gen hx (fun (q : Nat) => (mkL 77 .junk [(0, roV z l.length (flatE eventE l)), (1, roV z2 ties.length (flatE tieE ties)), (9, ownV true 2 0 q 1), (31, .int .i64 ties.length), (32, .int .i64 q)], [none, none, ownB true q (flatE (intE .i64) (castL (List.range q)))]))
          (fun q => q ≤ ties.length) (fun q => ties.length - q) 0
        case hI => exact Nat.zero_le _
        case hq => omega
        case ht => simp -implicitDefEqProofs [liveOf, hl1, hN, -getElem?_pos]
        case round =>
          rintro q hq _
          clear hx
          have hq : q ≤ ties.length := hq
          by_cases hlt : q < ties.length
          · have hlt2 : (q : Int) < ties.length := by omega
            have e2 : addI .i64 (q : Int) 1 = (q : Int) + 1 := addI_i64 (by omega) (by omega)
            have hs := castL_range_succ q
            have h9 : (q + 1) * 8 ≤ 140737488355328 := by omega
            cases q with
            | zero =>
              simp at e2 hlt2 hs
              simp -implicitDefEqProofs [hlt, hlt2, e2]
              exact rnd_next 1 hlt (by omega) (by simp -implicitDefEqProofs [liveOf, hs, castL])
            | succ q =>
              simp at e2 hlt2
              simp -implicitDefEqProofs [hlt, hlt2, e2, h9]
              exact rnd_next (q + 1 + 1) hlt (by omega) (by simp -implicitDefEqProofs [liveOf, hs])
          · obtain rfl : q = ties.length := by omega
            have hlt2 : ¬ (ties.length : Int) < (ties.length : Int) := by omega
            have hov : ∀ id, ownV true id 0 ties.length 1 = .sl id 0 ties.length 1 := fun id => _root_.Go.Ev.ownV_pos htp
            have hob : ∀ cs, ownB true ties.length cs = some (.cells cs false) := fun cs => _root_.Go.Ev.ownB_pos htp
            have hk0 : castL (List.range ties.length) = castL (kept l ties 0) := by unfold kept; rw [List.range_eq_range']; rfl
            simp -implicitDefEqProofs [hlt2, hov, hob, hk0]
            generalize hx : evLoopC _ _ _ _ _ _ _ _ _ _ = R
            apply loop_gen hx (fun (p : Nat) => (mkL 77 .junk [(0, roV z l.length (flatE eventE l)), (1, roV z2 ties.length (flatE tieE ties)), (9, .sl 2 0 (kept l ties p).length 1), (11, .int .i64 (chosen l ties p).length)], [none, none, some (.cells (flatE (intE .i64) (castL (kept l ties p) ++ List.replicate (p - (chosen l ties p).length) 0)) false)]))
              (fun p => p ≤ ties.length) (fun p => ties.length - p) 0
            case hI => exact Nat.zero_le _
            case hq => omega
            case ht => simp -implicitDefEqProofs [liveOf, kept_len, chosen]
            case round =>
              rintro p hp _
              clear hx
              have hp : p ≤ ties.length := hp
              have hkl := kept_len l ties p
              by_cases hpl : p < ties.length
              · obtain ⟨m, hm⟩ : ∃ m, (kept l ties p).length = m + 1 := ⟨(kept l ties p).length - 1, by omega⟩
                have hcm : (chosen l ties p).length < m + 1 := by omega
                have hcp := chosen_len l ties p
                have hlt3 : ((chosen l ties p).length : Int) < (m : Int) + 1 := by omega
                rw [hm]
                simp -implicitDefEqProofs [hlt3]
                generalize hz : evLoopC _ _ _ _ _ _ _ _ _ _ = R3
                have hKlt := kept_lt l ties p (by omega)
                have hrest := kept_rest l ties p hpl
                have hyes := kept_yes l ties p hpl
                have hno := kept_no l ties p hpl
                have hdc := drop_castL (kept l ties p) (List.replicate (p - (chosen l ties p).length) 0)
                have hCl : (flatE (intE .i64) (castL (kept l ties p)) ++ flatE (intE .i64) (List.replicate (p - (chosen l ties p).length) 0)).length ≤ 1000 := by simp; omega
                rw [flatE_append] at hdc
                generalize hC : flatE (intE .i64) (castL (kept l ties p)) ++ flatE (intE .i64) (List.replicate (p - (chosen l ties p).length) 0) = C at *
                have hCr : refsL C = [] := by rw [← hC, ← flatE_append]; exact refs_flatE _ _
                have hCs : ∀ hp hs hm, subL hp hs hm C = C := by intro hp hs hm; rw [← hC, ← flatE_append]; exact sub_flatE _ _
                generalize hci : (chosen l ties p).length = ci at *
                generalize hK : kept l ties p = K at *
                apply loop_gen hz (fun (j : Nat) => (mkL 77 .junk [(0, roV z l.length (flatE eventE l)), (1, roV z2 ties.length (flatE tieE ties)), (9, .sl 2 0 (m + 1) 1), (11, .int .i64 ci), (12, ownV true 3 0 (((K.take j).eraseIdx ci).map (tieAt ties)).length 4), (44, .sl 2 0 (m + 1) 1), (45, .int .i64 ((m : Int) + 1)), (46, .int .i64 j)],
                    [none, none, some (.cells C false), ownB true (((K.take j).eraseIdx ci).map (tieAt ties)).length (flatE tieE (((K.take j).eraseIdx ci).map (tieAt ties))), none]))
                  (fun j => j ≤ m + 1) (fun j => m + 1 - j) 0
                case hI => exact Nat.zero_le _
                case hq => omega
                case ht => simp -implicitDefEqProofs [liveOf, hCr, hCs]
                case round =>
                  rintro j hj _
                  clear hz
                  have hj : j ≤ m + 1 := hj
                  have hBl : (((K.take j).eraseIdx ci).map (tieAt ties)).length ≤ j := by rw [List.length_map]; exact Nat.le_trans (List.length_eraseIdx_le _ _) (by simp; omega)
                  by_cases hjl : j < m + 1
                  · have hjl2 : (j : Int) < (m : Int) + 1 := by omega
                    have hjK : j < K.length := by omega
                    obtain ⟨R, hd⟩ := hdc j hjK
                    have het := erase_take K ci j hjK
                    have hkt := hKlt K[j] (List.getElem_mem hjK)
                    have hkt2 : ((K[j] : Nat) : Int) < ties.length := by omega
                    have hta := tieAt_mem hkt
                    have ms := at_ties ties K[j] hkt
                    have h4 : 4 ≤ ties.length * 4 - K[j] * 4 := by omega
                    have e2 : addI .i64 (j : Int) 1 = (j : Int) + 1 := addI_i64 (by omega) (by omega)
                    by_cases hji : j = ci
                    · rw [if_pos hji] at het
                      subst hji
                      generalize ((K.take j).eraseIdx j) = E at *
                      cases hEl : E.length with
                      | zero =>
                        simp -implicitDefEqProofs [hjl, hjl2, hd, hEl, e2]
                        exact rnd_next (j + 1) hjl (by omega) (by simp -implicitDefEqProofs [liveOf, het, hEl, hCr, hCs])
                      | succ e =>
                        simp -implicitDefEqProofs [hjl, hjl2, hd, hEl, e2]
                        exact rnd_next (j + 1) hjl (by omega) (by simp -implicitDefEqProofs [liveOf, het, hEl, hCr, hCs])
                    · have hji2 : ¬ (j : Int) = (ci : Int) := by omega
                      rw [if_neg hji] at het
                      generalize ((K.take j).eraseIdx ci) = E at *
                      rw [List.length_map] at hBl
                      cases hEl : E.length with
                      | zero =>
                        have hE0 : E = [] := List.length_eq_zero_iff.1 hEl
                        subst hE0
                        simp -implicitDefEqProofs [hjl, hjl2, hd, hji2, e2, hkt, hkt2, ms, h4]
                        exact rnd_next (j + 1) hjl (by omega) (by simp -implicitDefEqProofs [liveOf, het, hta, tieE_f, hCr, hCs])
                      | succ e =>
                        have h9 : (e + 1 + 1) * 32 ≤ 140737488355328 := by omega
                        simp -implicitDefEqProofs [hjl, hjl2, hd, hji2, e2, hkt, hkt2, ms, h4, h9, hEl]
                        exact rnd_next (j + 1) hjl (by omega) (by simp -implicitDefEqProofs [liveOf, het, hta, tieE_f, hEl, hCr, hCs])
                  · obtain rfl : j = m + 1 := by omega
                    have hjl2 : ¬ ((m : Int) + 1 < (m : Int) + 1) := by omega
                    have htk : K.take (m + 1) = K := List.take_of_length_le (by omega)
                    rw [htk, hrest] at hBl
                    rw [htk, hrest]
                    have hkb : keepB l ties p = feas l (restT ties (chosen l ties p) p) := rfl
                    have hrr : Right l (restT ties (chosen l ties p) p) := right_map hr (fun i hi => by
                      rcases List.mem_append.1 hi with h | h
                      · have := chosen_lt l ties p i h; omega
                      · have := List.mem_range'_1.1 h; omega) (by
                      have := hBl
                      unfold restT at this
                      rw [List.length_map] at this
                      omega)
                    generalize restT ties (chosen l ties p) p = B at *
                    obtain ⟨d2, cs2, _⟩ := solved_ok l B z true hrr (k := k) (by omega)
                    have hfe2 : (closed (nV l) (bds l B)).isSome = feas l B := rfl
                    rw [hfe2] at cs2
                    generalize hH : ([none, none, some (.cells C false), ownB true B.length (flatE tieE B), none] : Heap) = H
                    have hmap : ([roV z l.length (flatE eventE l), ownV true 3 0 B.length 4] : List V).map (snap 4 H) = [roV z l.length (flatE eventE l), roV true B.length (flatE tieE B)] := by
                      rw [← hH]
                      have hta : List.take (B.length * 4) (flatE tieE B) = flatE tieE B := List.take_of_length_le (by simp)
                      cases hBl2 : B.length with
                      | zero => simp
                      | succ q => rw [hBl2] at hta; simp [hta]
                    have hHl : H.length = 5 := by rw [← hH]; rfl
                    obtain ⟨H2, c36b, g2, hl2, hget⟩ := callPlain_grid (call := evF Tryd.prog Γ (k + 1)) (H := H) (f := 24) (args := [roV z l.length (flatE eventE l), ownV true 3 0 B.length 4]) (by rw [hmap]; exact cs2) rfl (r' := .tup [.sl 5 0 (nV l) 1, .bool (feas l B)]) (by rw [hHl]; simp)
                    have hg2 : H2[2]? = some (some (.cells C false)) := by rw [hget 2 (by omega), ← hH]; rfl
                    rw [hHl] at hl2
                    generalize hNN : 5 + (nV l + 1) = NN at hl2
                    have hN2 : ¬ 2 = NN := by omega
                    have hN3 : ¬ NN = 2 := by omega
                    have hN4 : ¬ 2 = NN + 1 := by omega
                    have hN5 : ¬ NN + 1 = 2 := by omega
                    have hgN : H2[NN]? = none := List.getElem?_eq_none (by omega)
                    cases hfb : feas l B with
                    | true =>
                      rw [hfb] at c36b hkb
                      obtain ⟨hk1, hk2⟩ := hyes hkb
                      have e2 : addI .i64 (ci : Int) 1 = (ci : Int) + 1 := addI_i64 (by omega) (by omega)
                      have hz2 : p + 1 - (ci + 1) = p - ci := by omega
                      simp -implicitDefEqProofs [hjl2, hH, c36b, e2, -callPlain]
                      exact rnd_next (p + 1) hpl (by omega) (by simp -implicitDefEqProofs [liveOf, hl2, hg2, hgN, hk1, hk2, hm, hz2, hCr, hCs, hN2, hN3, ← hC, -getElem?_pos, List.getElem?_cons_zero])
                    | false =>
                      rw [hfb] at c36b hkb
                      obtain ⟨hk1, hk2⟩ := hno hkb
                      have cd := delete_ok (castL K) (p - ci) ci m (by simp [hm]) hcm (by omega) (k := k)
                      rw [castL_erase, ← hk1, show p - ci + 1 = p + 1 - ci by omega, flatE_append, hC] at cd
                      have hk3 : (kept l ties (p + 1)).length = m := by rw [hk1, List.length_eraseIdx_of_lt (by omega)]; omega
                      have hk4 : (chosen l ties (p + 1)).length = ci := by rw [hk2, hci]
                      have e2 : addI .i64 (ci : Int) 1 = (ci : Int) + 1 := addI_i64 (by omega) (by omega)
                      generalize hC2 : flatE (intE .i64) (castL (kept l ties (p + 1)) ++ List.replicate (p + 1 - ci) 0) = C2 at cd
                      have hCr2 : refsL C2 = [] := by rw [← hC2]; exact refs_flatE _ _
                      have hCs2 : ∀ hp hs hm, subL hp hs hm C2 = C2 := by intro hp hs hm; rw [← hC2]; exact sub_flatE _ _
                      have gs2 : ∀ x y, (H2.set 2 x ++ [y])[2]? = some x := fun x y => by
                        rw [List.getElem?_append_left (by simp; omega), List.getElem?_set_self (by omega)]
                      have gsN : ∀ x y, (H2.set 2 x ++ [y])[NN + 1]? = none := fun x y => List.getElem?_eq_none (by simp; omega)
                      simp -implicitDefEqProofs [hjl2, hH, c36b, e2, hg2, hl2, hCr, hCs, hCr2, hCs2, cd, -callPlain, -getElem?_pos, List.getElem?_cons_zero]
                      exact rnd_next (p + 1) hpl (by omega) (by simp -implicitDefEqProofs [liveOf, hl2, gs2, gsN, hk3, hk4, hCr2, hCs2, hN4, hN5, ← hC2, -getElem?_pos, List.getElem?_cons_zero])
              · obtain rfl : p = ties.length := by omega
                have hk1 : kept l ties ties.length = chosen l ties ties.length := by unfold kept; simp
                have hlt3 : ¬ ((chosen l ties ties.length).length : Int) < ((chosen l ties ties.length).length : Int) := by omega
                rw [hk1]
                simp -implicitDefEqProofs [hlt3]
  · rw [if_neg hf]
    simp -implicitDefEqProofs [c12', hf, -callPlain]
end Go.Ev.Tryd

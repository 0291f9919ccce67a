/-
  THE REDACT SEAT: the law RedactRoots walked (own work, printed by wip/tools/gen_roots.py).
-/
import Derived.Test.YtnalmdnfoicokaaRdY
import Derived.Test.YtnalmdnfoicokaaRdT
set_option linter.unusedSimpArgs false
set_option linter.unusedVariables false
set_option maxRecDepth 100000
set_option maxHeartbeats 16000000
namespace Go.Ev.Try
open Go Go.Ev Go.Proofs

theorem roots_ok (b l m : List Int) (z0 z1 z2 : Bool) (off : Int) {k : Nat} (hk : 400000 < k) :
    evF Try.prog Γ (k + 1) 5 [roV z0 b.length (flatE (intE .i64) b), roV z1 l.length (flatE (intE .i64) l), roV z2 m.length (flatE (intE .i64) m), .int .i64 off] [] = some (.bool true, []) := by
  obtain ⟨k, rfl⟩ : ∃ j, k = j + 2 := ⟨k - 2, by omega⟩
  obtain ⟨bs, mm, hbm, hm1, hm2, ci⟩ := image_ok b z0 (k := k + 1) (by omega)
  have hn1 : 1 ≤ bs.length := by omega
  have hn2 : bs.length ≤ 768 := by omega
  obtain ⟨S1, cs1, hS1, hW1⟩ := spans_ok l z1 bs.length 4 (by omega) (by omega) (by omega) (k := k + 1) (by omega)
  obtain ⟨S2, cs2, hS2, hW2⟩ := spans_ok m z2 bs.length 3 (by omega) (by omega) (by omega) (k := k + 1) (by omega)
  have cbl := blacked_ok (k := k + 1) (by omega)
  obtain ⟨c, hc⟩ : ∃ c, blocksN bs.length = c + 1 := ⟨blocksN bs.length - 1, by have := blocksN_pos bs.length; omega⟩
  have hcb : c + 1 ≤ 12 := by rw [← hc]; unfold blocksN; omega
  have tb : List.take bs.length (flatE (intE .u8) bs) = flatE (intE .u8) bs := by rw [List.take_of_length_le]; simp
  have csr := sumRoot_ok bs false (by omega) (k := k + 1) (by omega)
  simp only [roV_false] at csr
  have cbo := below_ok off bs.length (by omega) (by omega) (k := k + 1)
  obtain ⟨at0, hat, hatl⟩ : ∃ a : Nat, off % (bs.length : Int) = a ∧ a < bs.length := ⟨(off % (bs.length : Int)).toNat, by have := Int.emod_nonneg off (show (bs.length : Int) ≠ 0 by omega); omega, by have := Int.emod_lt_of_pos off (show (0 : Int) < bs.length by omega); have := Int.emod_nonneg off (show (bs.length : Int) ≠ 0 by omega); omega⟩
  rw [hat] at cbo
  have e1 : quoI .i64 (at0 : Int) 64 = (at0 / 64 : Nat) := by
    rw [quoI_eq, Int.tdiv_eq_ediv_of_nonneg (by omega), wrap_i64 (by omega) (by omega)]; omega
  have e2 : mulI .i64 ((at0 : Int) / 64) 64 = (at0 : Int) / 64 * 64 := mulI_i64 (by omega) (by omega)
  have hpl : placeL bs.length (at0 / 64) = 64 := by unfold placeL; omega
  have hB : at0 / 64 < blocksN bs.length := by unfold blocksN; omega
  obtain ⟨rest, hib⟩ := at_nums .u8 bs at0 hatl
  have hib1 := at_flatE1 (intE .u8) rfl bs at0 hatl
  have hWc : Within bs.length (S1 ++ S2) := fun s hs => by
    rcases List.mem_append.1 hs with h | h
    · exact hW1 s h
    · exact hW2 s h
  have hta : ∀ i, touched (S1 ++ S2) bs.length i = (touched S1 bs.length i || touched S2 bs.length i) := touched_app S1 S2 bs.length
  have hhs := hide_same false bs (touched S1 bs.length) (touched S2 bs.length) (touched (S1 ++ S2) bs.length) hta
  have hhh := hide_hash false bs (touched S1 bs.length) (touched S2 bs.length)
  have hhf := hide_fine false bs (touched S1 bs.length) (touched S2 bs.length)
  have hhd := hide_hid false bs (touched S1 bs.length) (touched S2 bs.length) at0 hB
  have hby := hide_byte false bs (touched S1 bs.length) (touched S2 bs.length) at0 hatl
  rw [← hta] at hhd
  have hby2 : touched (S1 ++ S2) bs.length (at0 / 64) = false → byteP (hideL (piecesOf false bs (touched S1 bs.length)) (touched S2 bs.length)) at0 = bs[at0] := fun h => by
    rw [hta] at h
    exact hby (Bool.or_eq_false_iff.1 h).1 (Bool.or_eq_false_iff.1 h).2
  clear hby hhs hhh
  have htd := touched_iff (S1 ++ S2) bs.length (at0 / 64)
  rw [hpl] at htd
  obtain ⟨O, cmt, hO⟩ := meet_ok (normL (S1 ++ S2)) [⟨((at0 / 64 : Nat) : Int) * 64, 64⟩] true false (by have := (norm_facts (S1 ++ S2)).2.1; simp at this; omega) (by simp) (k := k + 1) (by have := (norm_facts (S1 ++ S2)).2.1; simp at this; simp only [List.length_singleton]; omega)
  have hO2 : O ≠ [] ↔ touched (S1 ++ S2) bs.length (at0 / 64) = true := by
    rw [hO, htd]
    unfold common
    simp only [(norm_facts (S1 ++ S2)).2.2]
  have lN := (norm_facts (S1 ++ S2)).2.1
  simp [spanE_f] at cmt
  clear hO htd
  have hfx := piecesOf_ok false bs (touched S1 bs.length)
  have lX := piecesOf_length false bs (touched S1 bs.length)
  have lY := hideL_length (piecesOf false bs (touched S1 bs.length)) (touched S2 bs.length)
  have lW := piecesOf_length false bs (touched (S1 ++ S2) bs.length)
  rw [lX] at lY
  rw [hc] at lX lY lW
  have cy := root_ok bs.length (hideL (piecesOf false bs (touched S1 bs.length)) (touched S2 bs.length)) false (by omega) (by omega) hhf (k := k + 1) (by omega)
  rw [hide_hash, lY] at cy
  have csm := same_ok bs.length bs.length (hideL (piecesOf false bs (touched S1 bs.length)) (touched S2 bs.length)) (piecesOf false bs (touched (S1 ++ S2) bs.length)) false false (by omega) (k := k + 1) (by omega)
  rw [hide_same false bs _ _ _ hta, lY, lW] at csm
  have crd := read_ok bs.length (hideL (piecesOf false bs (touched S1 bs.length)) (touched S2 bs.length)) false (by omega) (by omega) hhf at0 1 (by omega) (k := k + 1) (by omega)
  rw [lY] at crd
  simp only [roV_false] at cy csm crd
  have tY : List.take ((c + 1) * 3) (flatE pieceE (hideL (piecesOf false bs (touched S1 bs.length)) (touched S2 bs.length))) = flatE pieceE (hideL (piecesOf false bs (touched S1 bs.length)) (touched S2 bs.length)) := by rw [List.take_of_length_le]; simp [lY]
  have tW : List.take ((c + 1) * 3) (flatE pieceE (piecesOf false bs (touched (S1 ++ S2) bs.length))) = flatE pieceE (piecesOf false bs (touched (S1 ++ S2) bs.length)) := by rw [List.take_of_length_le]; simp [lW]
  simp at csm cs1 cs2 ci
  have hatl2 : (at0 : Int) < (bs.length : Int) := by omega
  have hcatb : 4 + 3 ≤ 100000 := by omega
  cases h1 : S1.length with
  | zero =>
    cases h2 : S2.length with
    | zero =>
      have hnil1 : S1 = [] := List.length_eq_zero_iff.1 h1
      subst hnil1
      have hnil2 : S2 = [] := List.length_eq_zero_iff.1 h2
      subst hnil2
      have cmx := make_on bs hn1 (by omega) (k := k + 1) (by omega)
      have chd := hide_n bs.length (piecesOf false bs (touched [] bs.length)) c (by omega) hc lX hfx (k := k + 1) (by omega)
      have cct := cat_nn true true (k := k + 1) (by omega)
      simp only [List.append_nil] at *
      have cnn := norm_ok [] true (by simp) (k := k + 1) (by simp only [List.length_nil]; omega)
      simp at cnn
      rw [hc] at cmx
      have tN : ∀ d, (normL ([] : List Span)).length = d + 1 → List.take ((d + 1) * 2) (flatE spanE (normL ([] : List Span))) = flatE spanE (normL ([] : List Span)) := fun d hd => by rw [List.take_of_length_le]; simp [hd]
      generalize hideL (piecesOf false bs (touched [] bs.length)) (touched [] bs.length) = Y at *
      generalize piecesOf false bs (touched [] bs.length) = X at *
      generalize hTd : touched ([] : List Span) bs.length (at0 / 64) = td at *
      generalize normL ([] : List Span) = N at *
      simp at chd cct cmx csr
      have tX : List.take ((c + 1) * 3) (flatE pieceE X) = flatE pieceE X := by rw [List.take_of_length_le]; simp [lX]
      rw [b5 (fun _ _ => rfl) _ _ (by simp)]
      cases hN0 : N.length with
      | zero =>
        have hnilN : N = [] := List.length_eq_zero_iff.1 hN0
        subst hnilN
        simp at cnn cmt
        rcases crd with ⟨⟨kk, hk1, hk2, hk3⟩, crd⟩ | ⟨hk1, crd⟩
        · obtain rfl : kk = at0 := by omega
          have htd1 : td = true := by rw [← hhd, hk3]
          have hOne : O ≠ [] := hO2.2 htd1
          obtain ⟨o, hOl⟩ : ∃ o, O.length = o + 1 := ⟨O.length - 1, by have := List.length_pos_iff.2 hOne; omega⟩
          rw [hOl] at cmt
          have hop : (0 : Int) < (o : Int) + 1 := by omega
          simp at cmt crd
          simp -implicitDefEqProofs [ci, cs1, cs2, cmx, chd, cct, cbl, csm, tb, csr, cy, tY, cbo, e1, e2, hatl2, tX, crd, cnn, cmt, hop]
        · have htd0 : td = false := by rw [← hhd]; exact hk1 at0 (Nat.le_refl _) (by omega)
          have hOne : O = [] := by
            refine Classical.byContradiction fun h => ?_
            have := hO2.1 h
            rw [htd0] at this; cases this
          subst hOne
          have hbq : bytesR Y at0 1 = [bs[at0]] := by
            show [byteP Y at0] = _
            rw [hby2 htd0]
          rw [hbq] at crd
          simp at cmt crd
          generalize bs[at0] = bb at *
          simp -implicitDefEqProofs [ci, cs1, cs2, cmx, chd, cct, cbl, csm, tb, csr, cy, tY, cbo, e1, e2, hatl2, tX, crd, cnn, cmt, hib, hatl]
      | succ d =>
        have tN1 := tN d hN0
        rw [hN0] at cnn cmt
        simp at cnn cmt
        rcases crd with ⟨⟨kk, hk1, hk2, hk3⟩, crd⟩ | ⟨hk1, crd⟩
        · obtain rfl : kk = at0 := by omega
          have htd1 : td = true := by rw [← hhd, hk3]
          have hOne : O ≠ [] := hO2.2 htd1
          obtain ⟨o, hOl⟩ : ∃ o, O.length = o + 1 := ⟨O.length - 1, by have := List.length_pos_iff.2 hOne; omega⟩
          rw [hOl] at cmt
          have hop : (0 : Int) < (o : Int) + 1 := by omega
          simp at cmt crd
          simp -implicitDefEqProofs [ci, cs1, cs2, cmx, chd, cct, cbl, csm, tb, csr, cy, tY, cbo, e1, e2, hatl2, tX, crd, cnn, cmt, hop, tN1]
        · have htd0 : td = false := by rw [← hhd]; exact hk1 at0 (Nat.le_refl _) (by omega)
          have hOne : O = [] := by
            refine Classical.byContradiction fun h => ?_
            have := hO2.1 h
            rw [htd0] at this; cases this
          subst hOne
          have hbq : bytesR Y at0 1 = [bs[at0]] := by
            show [byteP Y at0] = _
            rw [hby2 htd0]
          rw [hbq] at crd
          simp at cmt crd
          generalize bs[at0] = bb at *
          simp -implicitDefEqProofs [ci, cs1, cs2, cmx, chd, cct, cbl, csm, tb, csr, cy, tY, cbo, e1, e2, hatl2, tX, crd, cnn, cmt, hib, hatl, tN1]
    | succ s2 =>
      have hnil1 : S1 = [] := List.length_eq_zero_iff.1 h1
      subst hnil1
      rw [h2] at cs2
      have tS2 : List.take ((s2 + 1) * 2) (flatE spanE S2) = flatE spanE S2 := by rw [List.take_of_length_le]; simp [h2]
      have p2 : 0 < S2.length := by omega
      have cmx := make_on bs hn1 (by omega) (k := k + 1) (by omega)
      have chd := hide_gf bs.length (piecesOf false bs (touched [] bs.length)) c S2 [] (by omega) hc lX hfx (by omega) hW2 (k := k + 1) (by omega)
      rw [List.append_nil, h2] at chd
      have cct := cat_nb S2 p2 (by omega) true false (k := k + 1) (by omega)
      rw [h2] at cct
      simp only [List.nil_append] at *
      have cmb := make_oo bs S2 s2 h2 hn1 (by omega) (by omega) hWc (k := k + 1) (by omega)
      have cnn := norm_ok S2 false (by omega) (k := k + 1) (by omega)
      rw [h2] at cnn
      simp at cnn
      rw [hc] at cmx cmb
      have tN : ∀ d, (normL S2).length = d + 1 → List.take ((d + 1) * 2) (flatE spanE (normL S2)) = flatE spanE (normL S2) := fun d hd => by rw [List.take_of_length_le]; simp [hd]
      generalize hideL (piecesOf false bs (touched [] bs.length)) (touched S2 bs.length) = Y at *
      generalize piecesOf false bs (touched S2 bs.length) = W at *
      generalize piecesOf false bs (touched [] bs.length) = X at *
      generalize hTd : touched S2 bs.length (at0 / 64) = td at *
      generalize normL S2 = N at *
      simp at chd cct cmx cmb csr
      rw [b5 (fun _ _ => rfl) _ _ (by simp)]
      cases hN0 : N.length with
      | zero =>
        have hnilN : N = [] := List.length_eq_zero_iff.1 hN0
        subst hnilN
        simp at cnn cmt
        rcases crd with ⟨⟨kk, hk1, hk2, hk3⟩, crd⟩ | ⟨hk1, crd⟩
        · obtain rfl : kk = at0 := by omega
          have htd1 : td = true := by rw [← hhd, hk3]
          have hOne : O ≠ [] := hO2.2 htd1
          obtain ⟨o, hOl⟩ : ∃ o, O.length = o + 1 := ⟨O.length - 1, by have := List.length_pos_iff.2 hOne; omega⟩
          rw [hOl] at cmt
          have hop : (0 : Int) < (o : Int) + 1 := by omega
          simp at cmt crd
          simp -implicitDefEqProofs [ci, cs1, cs2, cmx, chd, cct, cmb, cbl, csm, tb, csr, cy, tY, tW, cbo, tS2, e1, e2, hatl2, crd, cnn, cmt, hop]
        · have htd0 : td = false := by rw [← hhd]; exact hk1 at0 (Nat.le_refl _) (by omega)
          have hOne : O = [] := by
            refine Classical.byContradiction fun h => ?_
            have := hO2.1 h
            rw [htd0] at this; cases this
          subst hOne
          have hbq : bytesR Y at0 1 = [bs[at0]] := by
            show [byteP Y at0] = _
            rw [hby2 htd0]
          rw [hbq] at crd
          simp at cmt crd
          generalize bs[at0] = bb at *
          simp -implicitDefEqProofs [ci, cs1, cs2, cmx, chd, cct, cmb, cbl, csm, tb, csr, cy, tY, tW, cbo, tS2, e1, e2, hatl2, crd, cnn, cmt, hib, hatl]
      | succ d =>
        have tN1 := tN d hN0
        rw [hN0] at cnn cmt
        simp at cnn cmt
        rcases crd with ⟨⟨kk, hk1, hk2, hk3⟩, crd⟩ | ⟨hk1, crd⟩
        · obtain rfl : kk = at0 := by omega
          have htd1 : td = true := by rw [← hhd, hk3]
          have hOne : O ≠ [] := hO2.2 htd1
          obtain ⟨o, hOl⟩ : ∃ o, O.length = o + 1 := ⟨O.length - 1, by have := List.length_pos_iff.2 hOne; omega⟩
          rw [hOl] at cmt
          have hop : (0 : Int) < (o : Int) + 1 := by omega
          simp at cmt crd
          simp -implicitDefEqProofs [ci, cs1, cs2, cmx, chd, cct, cmb, cbl, csm, tb, csr, cy, tY, tW, cbo, tS2, e1, e2, hatl2, crd, cnn, cmt, hop, tN1]
        · have htd0 : td = false := by rw [← hhd]; exact hk1 at0 (Nat.le_refl _) (by omega)
          have hOne : O = [] := by
            refine Classical.byContradiction fun h => ?_
            have := hO2.1 h
            rw [htd0] at this; cases this
          subst hOne
          have hbq : bytesR Y at0 1 = [bs[at0]] := by
            show [byteP Y at0] = _
            rw [hby2 htd0]
          rw [hbq] at crd
          simp at cmt crd
          generalize bs[at0] = bb at *
          simp -implicitDefEqProofs [ci, cs1, cs2, cmx, chd, cct, cmb, cbl, csm, tb, csr, cy, tY, tW, cbo, tS2, e1, e2, hatl2, crd, cnn, cmt, hib, hatl, tN1]
  | succ s1 =>
    cases h2 : S2.length with
    | zero =>
      rw [h1] at cs1
      have tS1 : List.take ((s1 + 1) * 2) (flatE spanE S1) = flatE spanE S1 := by rw [List.take_of_length_le]; simp [h1]
      have p1 : 0 < S1.length := by omega
      have hnil2 : S2 = [] := List.length_eq_zero_iff.1 h2
      subst hnil2
      have cmx := make_oo bs S1 s1 h1 hn1 (by omega) (by omega) hW1 (k := k + 1) (by omega)
      have chd := hide_n bs.length (piecesOf false bs (touched S1 bs.length)) c (by omega) hc lX hfx (k := k + 1) (by omega)
      have cct := cat_an S1 p1 (by omega) false true (k := k + 1) (by omega)
      rw [h1] at cct
      simp only [List.append_nil] at *
      have cnn := norm_ok S1 false (by omega) (k := k + 1) (by omega)
      rw [h1] at cnn
      simp at cnn
      rw [hc] at cmx
      have tN : ∀ d, (normL S1).length = d + 1 → List.take ((d + 1) * 2) (flatE spanE (normL S1)) = flatE spanE (normL S1) := fun d hd => by rw [List.take_of_length_le]; simp [hd]
      generalize hideL (piecesOf false bs (touched S1 bs.length)) (touched [] bs.length) = Y at *
      generalize piecesOf false bs (touched S1 bs.length) = X at *
      generalize hTd : touched S1 bs.length (at0 / 64) = td at *
      generalize normL S1 = N at *
      simp at chd cct cmx csr
      have tX : List.take ((c + 1) * 3) (flatE pieceE X) = flatE pieceE X := by rw [List.take_of_length_le]; simp [lX]
      rw [b5 (fun _ _ => rfl) _ _ (by simp)]
      cases hN0 : N.length with
      | zero =>
        have hnilN : N = [] := List.length_eq_zero_iff.1 hN0
        subst hnilN
        simp at cnn cmt
        rcases crd with ⟨⟨kk, hk1, hk2, hk3⟩, crd⟩ | ⟨hk1, crd⟩
        · obtain rfl : kk = at0 := by omega
          have htd1 : td = true := by rw [← hhd, hk3]
          have hOne : O ≠ [] := hO2.2 htd1
          obtain ⟨o, hOl⟩ : ∃ o, O.length = o + 1 := ⟨O.length - 1, by have := List.length_pos_iff.2 hOne; omega⟩
          rw [hOl] at cmt
          have hop : (0 : Int) < (o : Int) + 1 := by omega
          simp at cmt crd
          simp -implicitDefEqProofs [ci, cs1, cs2, cmx, chd, cct, cbl, csm, tb, csr, cy, tY, cbo, tS1, e1, e2, hatl2, tX, crd, cnn, cmt, hop]
        · have htd0 : td = false := by rw [← hhd]; exact hk1 at0 (Nat.le_refl _) (by omega)
          have hOne : O = [] := by
            refine Classical.byContradiction fun h => ?_
            have := hO2.1 h
            rw [htd0] at this; cases this
          subst hOne
          have hbq : bytesR Y at0 1 = [bs[at0]] := by
            show [byteP Y at0] = _
            rw [hby2 htd0]
          rw [hbq] at crd
          simp at cmt crd
          generalize bs[at0] = bb at *
          simp -implicitDefEqProofs [ci, cs1, cs2, cmx, chd, cct, cbl, csm, tb, csr, cy, tY, cbo, tS1, e1, e2, hatl2, tX, crd, cnn, cmt, hib, hatl]
      | succ d =>
        have tN1 := tN d hN0
        rw [hN0] at cnn cmt
        simp at cnn cmt
        rcases crd with ⟨⟨kk, hk1, hk2, hk3⟩, crd⟩ | ⟨hk1, crd⟩
        · obtain rfl : kk = at0 := by omega
          have htd1 : td = true := by rw [← hhd, hk3]
          have hOne : O ≠ [] := hO2.2 htd1
          obtain ⟨o, hOl⟩ : ∃ o, O.length = o + 1 := ⟨O.length - 1, by have := List.length_pos_iff.2 hOne; omega⟩
          rw [hOl] at cmt
          have hop : (0 : Int) < (o : Int) + 1 := by omega
          simp at cmt crd
          simp -implicitDefEqProofs [ci, cs1, cs2, cmx, chd, cct, cbl, csm, tb, csr, cy, tY, cbo, tS1, e1, e2, hatl2, tX, crd, cnn, cmt, hop, tN1]
        · have htd0 : td = false := by rw [← hhd]; exact hk1 at0 (Nat.le_refl _) (by omega)
          have hOne : O = [] := by
            refine Classical.byContradiction fun h => ?_
            have := hO2.1 h
            rw [htd0] at this; cases this
          subst hOne
          have hbq : bytesR Y at0 1 = [bs[at0]] := by
            show [byteP Y at0] = _
            rw [hby2 htd0]
          rw [hbq] at crd
          simp at cmt crd
          generalize bs[at0] = bb at *
          simp -implicitDefEqProofs [ci, cs1, cs2, cmx, chd, cct, cbl, csm, tb, csr, cy, tY, cbo, tS1, e1, e2, hatl2, tX, crd, cnn, cmt, hib, hatl, tN1]
    | succ s2 =>
      rw [h1] at cs1
      have tS1 : List.take ((s1 + 1) * 2) (flatE spanE S1) = flatE spanE S1 := by rw [List.take_of_length_le]; simp [h1]
      have p1 : 0 < S1.length := by omega
      rw [h2] at cs2
      have tS2 : List.take ((s2 + 1) * 2) (flatE spanE S2) = flatE spanE S2 := by rw [List.take_of_length_le]; simp [h2]
      have p2 : 0 < S2.length := by omega
      have cmx := make_oo bs S1 s1 h1 hn1 (by omega) (by omega) hW1 (k := k + 1) (by omega)
      have chd := hide_gf bs.length (piecesOf false bs (touched S1 bs.length)) c S2 [] (by omega) hc lX hfx (by omega) hW2 (k := k + 1) (by omega)
      rw [List.append_nil, h2] at chd
      have cct := cat_ab S1 p1 (by omega) S2 p2 (by omega) false false (k := k + 1) (by omega)
      rw [h1] at cct
      rw [h2] at cct
      have cmb := make_oo bs (S1 ++ S2) (s1 + 1 + s2) (by simp only [List.length_append]; omega) hn1 (by omega) (by simp only [List.length_append]; omega) hWc (k := k + 1) (by omega)
      have cnn := norm_ok (S1 ++ S2) false (by simp only [List.length_append]; omega) (k := k + 1) (by simp only [List.length_append]; omega)
      rw [List.length_append, h1, h2, show s1 + 1 + (s2 + 1) = s1 + 1 + s2 + 1 by omega] at cnn
      simp at cnn
      have eL : s1 + 1 + (s2 + 1) = s1 + 1 + s2 + 1 := by omega
      have tSS : List.take ((s1 + 1 + s2 + 1) * 2) (flatE spanE S1 ++ flatE spanE S2) = flatE spanE S1 ++ flatE spanE S2 := by rw [List.take_of_length_le]; simp [h1, h2]; omega
      have tSS2 : List.take ((s1 + 1 + (s2 + 1)) * 2) (flatE spanE S1 ++ flatE spanE S2) = flatE spanE S1 ++ flatE spanE S2 := by rw [eL]; exact tSS
      rw [hc] at cmx cmb
      simp only [flatE_append] at cmb
      have tN : ∀ d, (normL (S1 ++ S2)).length = d + 1 → List.take ((d + 1) * 2) (flatE spanE (normL (S1 ++ S2))) = flatE spanE (normL (S1 ++ S2)) := fun d hd => by rw [List.take_of_length_le]; simp [hd]
      generalize hideL (piecesOf false bs (touched S1 bs.length)) (touched S2 bs.length) = Y at *
      generalize piecesOf false bs (touched (S1 ++ S2) bs.length) = W at *
      generalize piecesOf false bs (touched S1 bs.length) = X at *
      generalize hTd : touched (S1 ++ S2) bs.length (at0 / 64) = td at *
      generalize normL (S1 ++ S2) = N at *
      simp at chd cct cmx cmb csr
      rw [b5 (fun _ _ => rfl) _ _ (by simp)]
      cases hN0 : N.length with
      | zero =>
        have hnilN : N = [] := List.length_eq_zero_iff.1 hN0
        subst hnilN
        simp at cnn cmt
        rcases crd with ⟨⟨kk, hk1, hk2, hk3⟩, crd⟩ | ⟨hk1, crd⟩
        · obtain rfl : kk = at0 := by omega
          have htd1 : td = true := by rw [← hhd, hk3]
          have hOne : O ≠ [] := hO2.2 htd1
          obtain ⟨o, hOl⟩ : ∃ o, O.length = o + 1 := ⟨O.length - 1, by have := List.length_pos_iff.2 hOne; omega⟩
          rw [hOl] at cmt
          have hop : (0 : Int) < (o : Int) + 1 := by omega
          simp at cmt crd
          simp -implicitDefEqProofs [ci, cs1, cs2, cmx, chd, cct, cmb, cbl, csm, tb, csr, cy, tY, tW, cbo, tS1, tS2, tSS, tSS2, eL, e1, e2, hatl2, crd, cnn, cmt, hop]
        · have htd0 : td = false := by rw [← hhd]; exact hk1 at0 (Nat.le_refl _) (by omega)
          have hOne : O = [] := by
            refine Classical.byContradiction fun h => ?_
            have := hO2.1 h
            rw [htd0] at this; cases this
          subst hOne
          have hbq : bytesR Y at0 1 = [bs[at0]] := by
            show [byteP Y at0] = _
            rw [hby2 htd0]
          rw [hbq] at crd
          simp at cmt crd
          generalize bs[at0] = bb at *
          simp -implicitDefEqProofs [ci, cs1, cs2, cmx, chd, cct, cmb, cbl, csm, tb, csr, cy, tY, tW, cbo, tS1, tS2, tSS, tSS2, eL, e1, e2, hatl2, crd, cnn, cmt, hib, hatl]
      | succ d =>
        have tN1 := tN d hN0
        rw [hN0] at cnn cmt
        simp at cnn cmt
        rcases crd with ⟨⟨kk, hk1, hk2, hk3⟩, crd⟩ | ⟨hk1, crd⟩
        · obtain rfl : kk = at0 := by omega
          have htd1 : td = true := by rw [← hhd, hk3]
          have hOne : O ≠ [] := hO2.2 htd1
          obtain ⟨o, hOl⟩ : ∃ o, O.length = o + 1 := ⟨O.length - 1, by have := List.length_pos_iff.2 hOne; omega⟩
          rw [hOl] at cmt
          have hop : (0 : Int) < (o : Int) + 1 := by omega
          simp at cmt crd
          simp -implicitDefEqProofs [ci, cs1, cs2, cmx, chd, cct, cmb, cbl, csm, tb, csr, cy, tY, tW, cbo, tS1, tS2, tSS, tSS2, eL, e1, e2, hatl2, crd, cnn, cmt, hop, tN1]
        · have htd0 : td = false := by rw [← hhd]; exact hk1 at0 (Nat.le_refl _) (by omega)
          have hOne : O = [] := by
            refine Classical.byContradiction fun h => ?_
            have := hO2.1 h
            rw [htd0] at this; cases this
          subst hOne
          have hbq : bytesR Y at0 1 = [bs[at0]] := by
            show [byteP Y at0] = _
            rw [hby2 htd0]
          rw [hbq] at crd
          simp at cmt crd
          generalize bs[at0] = bb at *
          simp -implicitDefEqProofs [ci, cs1, cs2, cmx, chd, cct, cmb, cbl, csm, tb, csr, cy, tY, tW, cbo, tS1, tS2, tSS, tSS2, eL, e1, e2, hatl2, crd, cnn, cmt, hib, hatl, tN1]
end Go.Ev.Try

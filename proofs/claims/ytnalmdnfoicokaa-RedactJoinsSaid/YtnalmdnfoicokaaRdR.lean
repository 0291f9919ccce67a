/-
  THE REDACT SEAT: the law RedactJoins walked (own work, printed by wip/tools/gen_joins.py).
-/
import Derived.Test.YtnalmdnfoicokaaRdQ
set_option linter.unusedSimpArgs false
set_option linter.unusedVariables false
set_option maxRecDepth 100000
set_option maxHeartbeats 16000000
namespace Go.Ev.Try
open Go Go.Ev Go.Proofs

theorem joins_ok (b l m : List Int) (z0 z1 z2 : Bool) {k : Nat} (hk : 400000 < k) :
    evF Try.prog Γ (k + 1) 3 [roV z0 b.length (flatE (intE .i64) b), roV z1 l.length (flatE (intE .i64) l), roV z2 m.length (flatE (intE .i64) m)] [] = some (.bool true, []) := by
  obtain ⟨k, rfl⟩ : ∃ j, k = j + 2 := ⟨k - 2, by omega⟩
  obtain ⟨bs, mm, hbm, hm1, hm2, ci⟩ := image_ok b z0 (k := k + 1) (by omega)
  have hn1 : 1 ≤ bs.length := by omega
  have hn2 : bs.length ≤ 768 := by omega
  obtain ⟨S1, cs1, hS1, hW1⟩ := spans_ok l z1 bs.length 4 (by omega) (by omega) (by omega) (k := k + 1) (by omega)
  obtain ⟨S2, cs2, hS2, hW2⟩ := spans_ok m z2 bs.length 4 (by omega) (by omega) (by omega) (k := k + 1) (by omega)
  have cbl := blacked_ok (k := k + 1) (by omega)
  obtain ⟨c, hc⟩ : ∃ c, blocksN bs.length = c + 1 := ⟨blocksN bs.length - 1, by have := blocksN_pos bs.length; omega⟩
  have hcb : c + 1 ≤ 12 := by rw [← hc]; unfold blocksN; omega
  obtain ⟨d, hd⟩ : ∃ d, blocksN (bs.length + 1) = d + 1 := ⟨blocksN (bs.length + 1) - 1, by have := blocksN_pos (bs.length + 1); omega⟩
  have ccl := clone_ok bs false (by omega) (k := k + 1)
  have hbe : bs.isEmpty = false := by cases h : bs with | nil => rw [h] at hn1; simp at hn1 | cons _ _ => rfl
  rw [hbe] at ccl
  simp at ccl
  have hol : (bs ++ [1]).length = bs.length + 1 := by simp
  have cmo := make_an (bs ++ [1]) (by omega) (by omega) (k := k + 1) (by omega)
  have aO := piecesOf_ok false (bs ++ [1]) (touched [] (bs ++ [1]).length)
  have lO := piecesOf_length false (bs ++ [1]) (touched [] (bs ++ [1]).length)
  rw [hol] at cmo aO lO
  rw [hd] at cmo lO
  generalize piecesOf false (bs ++ [1]) (touched [] (bs.length + 1)) = O at *
  have tb : List.take bs.length (flatE (intE .u8) bs) = flatE (intE .u8) bs := by rw [List.take_of_length_le]; simp
  have hbb : bs.length + 1 ≤ 140737488355328 := by omega
  simp at cmo
  cases h1 : S1.length with

  | zero =>
    cases h2 : S2.length with
    | zero =>
      have hnil1 : S1 = [] := List.length_eq_zero_iff.1 h1
      subst hnil1
      have cm1 := make_on bs hn1 (by omega) (k := k + 1) (by omega)
      obtain ⟨T1, hT1⟩ : ∃ T, touched [] bs.length = T := ⟨_, rfl⟩
      rw [hT1] at cm1
      have hnil2 : S2 = [] := List.length_eq_zero_iff.1 h2
      subst hnil2
      have aX := piecesOf_ok false bs T1
      have lX := piecesOf_length false bs T1
      have hXY : rootL ((piecesOf false bs T1).map hashOf) = rootL ((piecesOf false bs T1).map hashOf) := by simp only [piecesOf_hash]
      have hsame := join_same bs T1 T1
      have hjh := join_hid bs T1 T1
      generalize piecesOf false bs T1 = X at *
      rw [hc] at cm1 lX
      have cj1 := join_ok bs.length X X c (by omega) hc lX lX aX aX hXY (k := k + 1) (by omega)
      have ccx := join_clash bs.length (bs.length + 1) X O c d (by omega) (by omega) (by omega) hc hd lX lO aX aO (k := k + 1) (by omega)
      have lJ1 : (joinL X X).length = c + 1 := by rw [joinL_length, lX]
      have csm := same_ok bs.length bs.length (joinL X X) (joinL X X) false false (by omega) (k := k + 1) (by omega)
      rw [hsame, lJ1] at csm
      generalize joinL X X = J1 at *
      have tJ1 : List.take ((c + 1) * 3) (flatE pieceE J1) = flatE pieceE J1 := by rw [List.take_of_length_le]; simp [lJ1]
      simp at csm cs1 cs2 ci cm1 cj1 ccx
      rw [b3 (fun _ _ => rfl) _ _ (by simp)]
      simp -implicitDefEqProofs [ci, cs1, cs2, cm1, cm1, cj1, cbl, csm, tJ1]
      generalize hx : evLoopC _ _ _ _ _ _ _ _ _ _ = R
      apply loop_gen hx (fun i : Nat => (mkL 139 .junk [(7, .sl 0 0 bs.length 1), (8, .ptr 1 0), (10, .ptr 2 0), (94, .sl 3 0 (c + 1) 3), (95, .int .i64 ((c : Int) + 1)), (96, .int .i64 i)],
          [some (.cells (flatE (intE .u8) bs) true), some (.cells [.int .i64 bs.length, .sl 4 0 (c + 1) 3] true), some (.cells [.int .i64 bs.length, .sl 5 0 (c + 1) 3] true), some (.cells (flatE pieceE J1) false), some (.cells (flatE pieceE X) false), some (.cells (flatE pieceE X) false)]))
        (fun i => i ≤ c + 1) (fun i => c + 1 - i) 0
      case hI => simp
      case hq => omega
      case ht => simp -implicitDefEqProofs [liveOf, coldOf]
      case round =>
        rintro i hi _
        clear hx
        by_cases hlt : i < c + 1
        · have hlt2 : (i : Int) < (c : Int) + 1 := by omega
          have e2 : addI .i64 (i : Int) 1 = (i : Int) + 1 := addI_i64 (by omega) (by omega)
          have dX := drop_pieces X i (by omega)
          have dJ := drop_pieces J1 i (by omega)
          have hh := hjh i (by omega) (by omega) (by omega)
          have h5 : 3 ≤ X.length * 3 - i * 3 := by omega
          have h7 : 3 ≤ J1.length * 3 - i * 3 := by omega
          generalize X[i] = x at *
          generalize J1[i] = j at *
          rw [hh] at dJ
          cases hx1 : x.hid with
          | true =>
            rw [hx1] at dX dJ
            simp at dJ
            simp -implicitDefEqProofs [hlt, hlt2, e2, dX, dJ, h5, h7]
            exact rnd_next (i + 1) hlt (by omega) (by simp -implicitDefEqProofs [liveOf, coldOf])
          | false =>
            rw [hx1] at dX dJ
            simp at dJ
            simp -implicitDefEqProofs [hlt, hlt2, e2, dX, dJ, h5, h7]
            exact rnd_next (i + 1) hlt (by omega) (by simp -implicitDefEqProofs [liveOf, coldOf])
        · have hi' : i = c + 1 := by omega
          subst hi'
          have hlt2 : ¬ ((c : Int) + 1 < (c : Int) + 1) := by omega
          simp -implicitDefEqProofs [hlt2, tb, ccl, hbb, cmo, ccx]
    | succ s2 =>
      have hnil1 : S1 = [] := List.length_eq_zero_iff.1 h1
      subst hnil1
      have cm1 := make_on bs hn1 (by omega) (k := k + 1) (by omega)
      obtain ⟨T1, hT1⟩ : ∃ T, touched [] bs.length = T := ⟨_, rfl⟩
      rw [hT1] at cm1
      have cm2 := make_oo bs S2 s2 h2 hn1 (by omega) (by omega) hW2 (k := k + 1) (by omega)
      generalize touched S2 bs.length = T2 at *
      rw [h2] at cs2
      have tS2 : List.take ((s2 + 1) * 2) (flatE spanE S2) = flatE spanE S2 := by rw [List.take_of_length_le]; simp [h2]
      have aX := piecesOf_ok false bs T1
      have aY := piecesOf_ok false bs T2
      have lX := piecesOf_length false bs T1
      have lY := piecesOf_length false bs T2
      have hXY : rootL ((piecesOf false bs T1).map hashOf) = rootL ((piecesOf false bs T2).map hashOf) := by simp only [piecesOf_hash]
      have hsame := join_same bs T1 T2
      have hjh := join_hid bs T1 T2
      generalize piecesOf false bs T1 = X at *
      generalize piecesOf false bs T2 = Y at *
      rw [hc] at cm1 cm2 lX lY
      have cj1 := join_ok bs.length X Y c (by omega) hc lX lY aX aY hXY (k := k + 1) (by omega)
      have cj2 := join_ok bs.length Y X c (by omega) hc lY lX aY aX hXY.symm (k := k + 1) (by omega)
      have ccx := join_clash bs.length (bs.length + 1) X O c d (by omega) (by omega) (by omega) hc hd lX lO aX aO (k := k + 1) (by omega)
      have lJ1 : (joinL X Y).length = c + 1 := by rw [joinL_length, lX]
      have lJ2 : (joinL Y X).length = c + 1 := by rw [joinL_length, lY]
      have csm := same_ok bs.length bs.length (joinL X Y) (joinL Y X) false false (by omega) (k := k + 1) (by omega)
      rw [hsame, lJ1, lJ2] at csm
      generalize joinL X Y = J1 at *
      generalize joinL Y X = J2 at *
      have tJ1 : List.take ((c + 1) * 3) (flatE pieceE J1) = flatE pieceE J1 := by rw [List.take_of_length_le]; simp [lJ1]
      have tJ2 : List.take ((c + 1) * 3) (flatE pieceE J2) = flatE pieceE J2 := by rw [List.take_of_length_le]; simp [lJ2]
      simp at csm cs1 cs2 ci cm1 cm2 cj1 cj2 ccx
      rw [b3 (fun _ _ => rfl) _ _ (by simp)]
      simp -implicitDefEqProofs [ci, cs1, cs2, cm1, cm2, cj1, cj2, cbl, csm, tJ1, tJ2, tS2]
      generalize hx : evLoopC _ _ _ _ _ _ _ _ _ _ = R
      apply loop_gen hx (fun i : Nat => (mkL 139 .junk [(7, .sl 0 0 bs.length 1), (8, .ptr 1 0), (10, .ptr 2 0), (94, .sl 3 0 (c + 1) 3), (95, .int .i64 ((c : Int) + 1)), (96, .int .i64 i)],
          [some (.cells (flatE (intE .u8) bs) true), some (.cells [.int .i64 bs.length, .sl 4 0 (c + 1) 3] true), some (.cells [.int .i64 bs.length, .sl 5 0 (c + 1) 3] true), some (.cells (flatE pieceE J1) false), some (.cells (flatE pieceE X) false), some (.cells (flatE pieceE Y) false)]))
        (fun i => i ≤ c + 1) (fun i => c + 1 - i) 0
      case hI => simp
      case hq => omega
      case ht => simp -implicitDefEqProofs [liveOf, coldOf]
      case round =>
        rintro i hi _
        clear hx
        by_cases hlt : i < c + 1
        · have hlt2 : (i : Int) < (c : Int) + 1 := by omega
          have e2 : addI .i64 (i : Int) 1 = (i : Int) + 1 := addI_i64 (by omega) (by omega)
          have dX := drop_pieces X i (by omega)
          have dY := drop_pieces Y i (by omega)
          have dJ := drop_pieces J1 i (by omega)
          have hh := hjh i (by omega) (by omega) (by omega)
          have h5 : 3 ≤ X.length * 3 - i * 3 := by omega
          have h6 : 3 ≤ Y.length * 3 - i * 3 := by omega
          have h7 : 3 ≤ J1.length * 3 - i * 3 := by omega
          generalize X[i] = x at *
          generalize Y[i] = y at *
          generalize J1[i] = j at *
          rw [hh] at dJ
          cases hx1 : x.hid with
          | true =>
            rw [hx1] at dX dJ
            cases hy1 : y.hid with
            | true =>
              rw [hy1] at dY dJ
              simp at dJ
              simp -implicitDefEqProofs [hlt, hlt2, e2, dX, dY, dJ, h5, h6, h7]
              exact rnd_next (i + 1) hlt (by omega) (by simp -implicitDefEqProofs [liveOf, coldOf])
            | false =>
              rw [hy1] at dY dJ
              simp at dJ
              simp -implicitDefEqProofs [hlt, hlt2, e2, dX, dY, dJ, h5, h6, h7]
              exact rnd_next (i + 1) hlt (by omega) (by simp -implicitDefEqProofs [liveOf, coldOf])
          | false =>
            rw [hx1] at dX dJ
            simp at dJ
            simp -implicitDefEqProofs [hlt, hlt2, e2, dX, dY, dJ, h5, h6, h7]
            exact rnd_next (i + 1) hlt (by omega) (by simp -implicitDefEqProofs [liveOf, coldOf])
        · have hi' : i = c + 1 := by omega
          subst hi'
          have hlt2 : ¬ ((c : Int) + 1 < (c : Int) + 1) := by omega
          simp -implicitDefEqProofs [hlt2, tb, ccl, hbb, cmo, ccx]
  | succ s1 =>
    cases h2 : S2.length with
    | zero =>
      have cm1 := make_oo bs S1 s1 h1 hn1 (by omega) (by omega) hW1 (k := k + 1) (by omega)
      generalize touched S1 bs.length = T1 at *
      rw [h1] at cs1
      have tS1 : List.take ((s1 + 1) * 2) (flatE spanE S1) = flatE spanE S1 := by rw [List.take_of_length_le]; simp [h1]
      have hnil2 : S2 = [] := List.length_eq_zero_iff.1 h2
      subst hnil2
      have cm2 := make_on bs hn1 (by omega) (k := k + 1) (by omega)
      obtain ⟨T2, hT2⟩ : ∃ T, touched [] bs.length = T := ⟨_, rfl⟩
      rw [hT2] at cm2
      have aX := piecesOf_ok false bs T1
      have aY := piecesOf_ok false bs T2
      have lX := piecesOf_length false bs T1
      have lY := piecesOf_length false bs T2
      have hXY : rootL ((piecesOf false bs T1).map hashOf) = rootL ((piecesOf false bs T2).map hashOf) := by simp only [piecesOf_hash]
      have hsame := join_same bs T1 T2
      have hjh := join_hid bs T1 T2
      generalize piecesOf false bs T1 = X at *
      generalize piecesOf false bs T2 = Y at *
      rw [hc] at cm1 cm2 lX lY
      have cj1 := join_ok bs.length X Y c (by omega) hc lX lY aX aY hXY (k := k + 1) (by omega)
      have cj2 := join_ok bs.length Y X c (by omega) hc lY lX aY aX hXY.symm (k := k + 1) (by omega)
      have ccx := join_clash bs.length (bs.length + 1) X O c d (by omega) (by omega) (by omega) hc hd lX lO aX aO (k := k + 1) (by omega)
      have lJ1 : (joinL X Y).length = c + 1 := by rw [joinL_length, lX]
      have lJ2 : (joinL Y X).length = c + 1 := by rw [joinL_length, lY]
      have csm := same_ok bs.length bs.length (joinL X Y) (joinL Y X) false false (by omega) (k := k + 1) (by omega)
      rw [hsame, lJ1, lJ2] at csm
      generalize joinL X Y = J1 at *
      generalize joinL Y X = J2 at *
      have tJ1 : List.take ((c + 1) * 3) (flatE pieceE J1) = flatE pieceE J1 := by rw [List.take_of_length_le]; simp [lJ1]
      have tJ2 : List.take ((c + 1) * 3) (flatE pieceE J2) = flatE pieceE J2 := by rw [List.take_of_length_le]; simp [lJ2]
      simp at csm cs1 cs2 ci cm1 cm2 cj1 cj2 ccx
      rw [b3 (fun _ _ => rfl) _ _ (by simp)]
      simp -implicitDefEqProofs [ci, cs1, cs2, cm1, cm2, cj1, cj2, cbl, csm, tJ1, tJ2, tS1]
      generalize hx : evLoopC _ _ _ _ _ _ _ _ _ _ = R
      apply loop_gen hx (fun i : Nat => (mkL 139 .junk [(7, .sl 0 0 bs.length 1), (8, .ptr 1 0), (10, .ptr 2 0), (94, .sl 3 0 (c + 1) 3), (95, .int .i64 ((c : Int) + 1)), (96, .int .i64 i)],
          [some (.cells (flatE (intE .u8) bs) true), some (.cells [.int .i64 bs.length, .sl 4 0 (c + 1) 3] true), some (.cells [.int .i64 bs.length, .sl 5 0 (c + 1) 3] true), some (.cells (flatE pieceE J1) false), some (.cells (flatE pieceE X) false), some (.cells (flatE pieceE Y) false)]))
        (fun i => i ≤ c + 1) (fun i => c + 1 - i) 0
      case hI => simp
      case hq => omega
      case ht => simp -implicitDefEqProofs [liveOf, coldOf]
      case round =>
        rintro i hi _
        clear hx
        by_cases hlt : i < c + 1
        · have hlt2 : (i : Int) < (c : Int) + 1 := by omega
          have e2 : addI .i64 (i : Int) 1 = (i : Int) + 1 := addI_i64 (by omega) (by omega)
          have dX := drop_pieces X i (by omega)
          have dY := drop_pieces Y i (by omega)
          have dJ := drop_pieces J1 i (by omega)
          have hh := hjh i (by omega) (by omega) (by omega)
          have h5 : 3 ≤ X.length * 3 - i * 3 := by omega
          have h6 : 3 ≤ Y.length * 3 - i * 3 := by omega
          have h7 : 3 ≤ J1.length * 3 - i * 3 := by omega
          generalize X[i] = x at *
          generalize Y[i] = y at *
          generalize J1[i] = j at *
          rw [hh] at dJ
          cases hx1 : x.hid with
          | true =>
            rw [hx1] at dX dJ
            cases hy1 : y.hid with
            | true =>
              rw [hy1] at dY dJ
              simp at dJ
              simp -implicitDefEqProofs [hlt, hlt2, e2, dX, dY, dJ, h5, h6, h7]
              exact rnd_next (i + 1) hlt (by omega) (by simp -implicitDefEqProofs [liveOf, coldOf])
            | false =>
              rw [hy1] at dY dJ
              simp at dJ
              simp -implicitDefEqProofs [hlt, hlt2, e2, dX, dY, dJ, h5, h6, h7]
              exact rnd_next (i + 1) hlt (by omega) (by simp -implicitDefEqProofs [liveOf, coldOf])
          | false =>
            rw [hx1] at dX dJ
            simp at dJ
            simp -implicitDefEqProofs [hlt, hlt2, e2, dX, dY, dJ, h5, h6, h7]
            exact rnd_next (i + 1) hlt (by omega) (by simp -implicitDefEqProofs [liveOf, coldOf])
        · have hi' : i = c + 1 := by omega
          subst hi'
          have hlt2 : ¬ ((c : Int) + 1 < (c : Int) + 1) := by omega
          simp -implicitDefEqProofs [hlt2, tb, ccl, hbb, cmo, ccx]
    | succ s2 =>
      have cm1 := make_oo bs S1 s1 h1 hn1 (by omega) (by omega) hW1 (k := k + 1) (by omega)
      generalize touched S1 bs.length = T1 at *
      rw [h1] at cs1
      have tS1 : List.take ((s1 + 1) * 2) (flatE spanE S1) = flatE spanE S1 := by rw [List.take_of_length_le]; simp [h1]
      have cm2 := make_oo bs S2 s2 h2 hn1 (by omega) (by omega) hW2 (k := k + 1) (by omega)
      generalize touched S2 bs.length = T2 at *
      rw [h2] at cs2
      have tS2 : List.take ((s2 + 1) * 2) (flatE spanE S2) = flatE spanE S2 := by rw [List.take_of_length_le]; simp [h2]
      have aX := piecesOf_ok false bs T1
      have aY := piecesOf_ok false bs T2
      have lX := piecesOf_length false bs T1
      have lY := piecesOf_length false bs T2
      have hXY : rootL ((piecesOf false bs T1).map hashOf) = rootL ((piecesOf false bs T2).map hashOf) := by simp only [piecesOf_hash]
      have hsame := join_same bs T1 T2
      have hjh := join_hid bs T1 T2
      generalize piecesOf false bs T1 = X at *
      generalize piecesOf false bs T2 = Y at *
      rw [hc] at cm1 cm2 lX lY
      have cj1 := join_ok bs.length X Y c (by omega) hc lX lY aX aY hXY (k := k + 1) (by omega)
      have cj2 := join_ok bs.length Y X c (by omega) hc lY lX aY aX hXY.symm (k := k + 1) (by omega)
      have ccx := join_clash bs.length (bs.length + 1) X O c d (by omega) (by omega) (by omega) hc hd lX lO aX aO (k := k + 1) (by omega)
      have lJ1 : (joinL X Y).length = c + 1 := by rw [joinL_length, lX]
      have lJ2 : (joinL Y X).length = c + 1 := by rw [joinL_length, lY]
      have csm := same_ok bs.length bs.length (joinL X Y) (joinL Y X) false false (by omega) (k := k + 1) (by omega)
      rw [hsame, lJ1, lJ2] at csm
      generalize joinL X Y = J1 at *
      generalize joinL Y X = J2 at *
      have tJ1 : List.take ((c + 1) * 3) (flatE pieceE J1) = flatE pieceE J1 := by rw [List.take_of_length_le]; simp [lJ1]
      have tJ2 : List.take ((c + 1) * 3) (flatE pieceE J2) = flatE pieceE J2 := by rw [List.take_of_length_le]; simp [lJ2]
      simp at csm cs1 cs2 ci cm1 cm2 cj1 cj2 ccx
      rw [b3 (fun _ _ => rfl) _ _ (by simp)]
      simp -implicitDefEqProofs [ci, cs1, cs2, cm1, cm2, cj1, cj2, cbl, csm, tJ1, tJ2, tS1, tS2]
      generalize hx : evLoopC _ _ _ _ _ _ _ _ _ _ = R
      apply loop_gen hx (fun i : Nat => (mkL 139 .junk [(7, .sl 0 0 bs.length 1), (8, .ptr 1 0), (10, .ptr 2 0), (94, .sl 3 0 (c + 1) 3), (95, .int .i64 ((c : Int) + 1)), (96, .int .i64 i)],
          [some (.cells (flatE (intE .u8) bs) true), some (.cells [.int .i64 bs.length, .sl 4 0 (c + 1) 3] true), some (.cells [.int .i64 bs.length, .sl 5 0 (c + 1) 3] true), some (.cells (flatE pieceE J1) false), some (.cells (flatE pieceE X) false), some (.cells (flatE pieceE Y) false)]))
        (fun i => i ≤ c + 1) (fun i => c + 1 - i) 0
      case hI => simp
      case hq => omega
      case ht => simp -implicitDefEqProofs [liveOf, coldOf]
      case round =>
        rintro i hi _
        clear hx
        by_cases hlt : i < c + 1
        · have hlt2 : (i : Int) < (c : Int) + 1 := by omega
          have e2 : addI .i64 (i : Int) 1 = (i : Int) + 1 := addI_i64 (by omega) (by omega)
          have dX := drop_pieces X i (by omega)
          have dY := drop_pieces Y i (by omega)
          have dJ := drop_pieces J1 i (by omega)
          have hh := hjh i (by omega) (by omega) (by omega)
          have h5 : 3 ≤ X.length * 3 - i * 3 := by omega
          have h6 : 3 ≤ Y.length * 3 - i * 3 := by omega
          have h7 : 3 ≤ J1.length * 3 - i * 3 := by omega
          generalize X[i] = x at *
          generalize Y[i] = y at *
          generalize J1[i] = j at *
          rw [hh] at dJ
          cases hx1 : x.hid with
          | true =>
            rw [hx1] at dX dJ
            cases hy1 : y.hid with
            | true =>
              rw [hy1] at dY dJ
              simp at dJ
              simp -implicitDefEqProofs [hlt, hlt2, e2, dX, dY, dJ, h5, h6, h7]
              exact rnd_next (i + 1) hlt (by omega) (by simp -implicitDefEqProofs [liveOf, coldOf])
            | false =>
              rw [hy1] at dY dJ
              simp at dJ
              simp -implicitDefEqProofs [hlt, hlt2, e2, dX, dY, dJ, h5, h6, h7]
              exact rnd_next (i + 1) hlt (by omega) (by simp -implicitDefEqProofs [liveOf, coldOf])
          | false =>
            rw [hx1] at dX dJ
            simp at dJ
            simp -implicitDefEqProofs [hlt, hlt2, e2, dX, dY, dJ, h5, h6, h7]
            exact rnd_next (i + 1) hlt (by omega) (by simp -implicitDefEqProofs [liveOf, coldOf])
        · have hi' : i = c + 1 := by omega
          subst hi'
          have hlt2 : ¬ ((c : Int) + 1 < (c : Int) + 1) := by omega
          simp -implicitDefEqProofs [hlt2, tb, ccl, hbb, cmo, ccx]
end Go.Ev.Try

/-
  THE REDACT SEAT: a leaf of the law RedactShows walked (own work, printed by wip/tools/gen_shows.py).
-/
import Derived.Test.YtnalmdnfoicokaaRsQ
import Derived.Test.YtnalmdnfoicokaaRmD
import Derived.Test.YtnalmdnfoicokaaRsA
import Derived.Test.YtnalmdnfoicokaaRsR
set_option linter.unusedSimpArgs false
set_option linter.unusedVariables false
set_option maxRecDepth 100000
set_option maxHeartbeats 4000000
namespace Go.Ev.Try
open Go Go.Ev Go.Proofs

theorem shows_gg0 (bs : List Int) (zb : Bool) (hzb : zb = true → bs = []) (l : List Span) (m : List Span) (s : Span) (hbl : bs.length ≤ 9223372036854775807) (hl : l.length ≤ 8796093022208) (hm : m.length ≤ 8796093022208) (wA : bs.length ≤ 65536 → Within bs.length (keepL l bs.length)) (wB : bs.length ≤ 65536 → Within bs.length (keepL m bs.length)) (hAB : (keepL l bs.length).length + (keepL m bs.length).length = 0) {k : Nat} (hk : 400000 + l.length + m.length < k) :
    evF Try.prog Γ (k + 1) 6 [roV zb bs.length (flatE (intE .u8) bs), .ros l.length (flatE spanE l), .ros m.length (flatE spanE m), .agg [.int .i64 s.off, .int .i64 s.len]] [] = some (.bool true, []) := by
  obtain ⟨k, rfl⟩ : ∃ j, k = j + 2 := ⟨k - 2, by omega⟩
  have cbl := blacked16 (k := k + 1) (by omega)
  have c1 := clone32 l false hl (k := k + 1)
  have d1 := delete31 33 (Or.inl rfl) l l.isEmpty hl zb bs hbl (k := k + 1) (by omega)
  simp only [flatE_append] at d1
  generalize l.isEmpty = e1 at *
  generalize restL l bs.length = G1 at *
  have hh1 : (keepL l bs.length).length ≤ 8796093022208 := Nat.le_trans (List.length_filter_le _ _) hl
  generalize keepL l bs.length = A at *
  have c2 := clone32 m false hm (k := k + 1)
  have d2 := delete31 34 (Or.inr rfl) m m.isEmpty hm zb bs hbl (k := k + 1) (by omega)
  simp only [flatE_append] at d2
  generalize m.isEmpty = e2 at *
  generalize restL m bs.length = G2 at *
  have hh2 : (keepL m bs.length).length ≤ 8796093022208 := Nat.le_trans (List.length_filter_le _ _) hm
  generalize keepL m bs.length = B at *
  have hwn : Within bs.length [] := fun s hs => by simp at hs
  have ea : addI .i64 (A.length : Int) (B.length : Int) = (A.length : Int) + B.length := addI_i64 (by omega) (by omega)
  rw [b6 (fun _ _ => rfl) _ _ (by simp)]
  by_cases hbig : 65536 < bs.length
  · have hbig2 : (65536 : Int) < bs.length := by omega
    simp -implicitDefEqProofs [c1, c2, d1, d2, cbl, ea, hbig, hbig2]
  have hbig2 : ¬ (65536 : Int) < bs.length := by omega
  have hwA := wA (by omega)
  have hwB := wB (by omega)
  by_cases hbig3 : 4096 < A.length + B.length
  · have hbig4 : (4096 : Int) < (A.length : Int) + B.length := by omega
    simp -implicitDefEqProofs [c1, c2, d1, d2, cbl, ea, hbig, hbig2, hbig3, hbig4]
  have hbig4 : ¬ (4096 : Int) < (A.length : Int) + B.length := by omega
  have hnilA : A = [] := List.length_eq_zero_iff.1 (by omega)
  subst hnilA
  have hnilB : B = [] := List.length_eq_zero_iff.1 (by omega)
  subst hnilB
  have ea0 : addI .i64 0 0 = 0 := by rw [addI_i64 (by omega) (by omega)]; omega
  have mx := make_any_g bs zb ([] : List Span) G1 e1 (by omega) (by first | omega | simp) hwA (k := k + 1) (by omega)
  have my := make_any_g bs zb ([] : List Span) G2 e2 (by omega) (by first | omega | simp) hwB (k := k + 1) (by omega)
  have lX := piecesOf_length zb bs (touched [] bs.length)
  have lY := piecesOf_length zb bs (touched [] bs.length)
  obtain ⟨c, hc⟩ : ∃ c, blocksN bs.length = c + 1 := ⟨blocksN bs.length - 1, by have := blocksN_pos bs.length; omega⟩
  have fX := piecesOf_ok zb bs (touched [] bs.length)
  have fY := piecesOf_ok zb bs (touched [] bs.length)
  have hr : rootL ((piecesOf zb bs (touched [] bs.length)).map hashOf) = rootL ((piecesOf zb bs (touched [] bs.length)).map hashOf) := by simp only [piecesOf_hash]
  rw [hc] at lX lY mx my
  have hd := hide_g bs.length (piecesOf zb bs (touched [] bs.length)) c ([] : List Span) G2 e2 (by omega) hc lX fX (by first | omega | simp) hwB (k := k + 1) (by omega)
  have jn := join_ok bs.length (piecesOf zb bs (touched [] bs.length)) (piecesOf zb bs (touched [] bs.length)) c (by omega) hc lX lY fX fY hr (k := k + 1) (by omega)
  have hB : blocksN bs.length ≤ 1024 := by unfold blocksN; omega
  have cc := cat_any ([] : List Span) ([] : List Span) (by first | omega | simp) (by first | omega | simp) false false (k := k + 1) (by omega)
  have bk := black_any_n bs zb hzb (by omega) (k := k + 1) (by omega)
  have bA := black_any_g bs zb hzb ([] : List Span) G1 e1 (by omega) (by first | omega | simp) hwA (k := k + 1) (by omega)
  have bB := black_any_g bs zb hzb ([] : List Span) G2 e2 (by omega) (by first | omega | simp) hwB (k := k + 1) (by omega)
  have mj := mix_join zb bs (touched [] bs.length) (touched [] bs.length)
  rw [hc] at mj
  have lW := piecesOf_length zb bs (touched ([] : List Span) bs.length)
  have lH := hideL_length (piecesOf zb bs (touched [] bs.length)) (touched [] bs.length)
  have sa := hide_same zb bs (touched [] bs.length) (touched [] bs.length) (touched ([] : List Span) bs.length) (fun i => (Bool.or_self _).symm)
  rw [hc] at lW bk bA bB
  rw [lX] at lH
  have sm := same_ok bs.length bs.length (hideL (piecesOf zb bs (touched [] bs.length)) (touched [] bs.length)) (piecesOf zb bs (touched ([] : List Span) bs.length)) false false (by omega) (k := k + 1) (by omega)
  rw [sa, lH, lW] at sm
  have sxy := same_ok bs.length bs.length (piecesOf zb bs (touched [] bs.length)) (piecesOf zb bs (touched [] bs.length)) false false (by omega) (k := k + 1) (by omega)
  have pxy := samePieces_ok bs.length bs.length (piecesOf zb bs (touched [] bs.length)) (piecesOf zb bs (touched [] bs.length)) false false (by omega) (k := k + 1) (by omega)
  have br := bytes_read zb bs (touched [] bs.length)
  rw [lX] at sxy pxy
  generalize sameAll (piecesOf zb bs (touched [] bs.length)) (piecesOf zb bs (touched [] bs.length)) = sb at *
  simp only [flatE_append, List.length_nil, Nat.add_zero, Nat.zero_add, Nat.zero_mul, List.nil_append, List.append_nil, flatE_nil] at mx my hd cc bk bA bB
  have tW : List.take ((c + 1) * 3) (flatE pieceE (piecesOf zb bs (touched ([] : List Span) bs.length))) = flatE pieceE (piecesOf zb bs (touched ([] : List Span) bs.length)) := by rw [List.take_of_length_le]; simp [lW]
  have tH : List.take ((c + 1) * 3) (flatE pieceE (hideL (piecesOf zb bs (touched [] bs.length)) (touched [] bs.length))) = flatE pieceE (hideL (piecesOf zb bs (touched [] bs.length)) (touched [] bs.length)) := by rw [List.take_of_length_le]; simp [lH]
  have tX : List.take ((c + 1) * 3) (flatE pieceE (piecesOf zb bs (touched [] bs.length))) = flatE pieceE (piecesOf zb bs (touched [] bs.length)) := by rw [List.take_of_length_le]; simp [lX]
  have tY : List.take ((c + 1) * 3) (flatE pieceE (piecesOf zb bs (touched [] bs.length))) = flatE pieceE (piecesOf zb bs (touched [] bs.length)) := by rw [List.take_of_length_le]; simp [lY]
  generalize (hideL (piecesOf zb bs (touched [] bs.length)) (touched [] bs.length)) = HH at *
  generalize (piecesOf zb bs (touched [] bs.length)) = X at *
  simp at cc
  simp only [roV_false, roV_nil] at cc sm sxy pxy
  simp -implicitDefEqProofs [c1, c2, d1, d2, cbl, ea, ea0, hbig, hbig2, hbig3, hbig4, mx, my, hd, jn, cc, bk, sm, sxy, pxy, bA, bB, tW, tH, tX, tY]
  generalize hx : evLoopC _ _ _ _ _ _ _ _ _ _ = R
  apply loop_gen hx (fun i : Nat => (mkL 200 .junk [(1, .sl 0 0 0 2), (4, .ptr 1 0), (7, .ptr 2 0), (9, .ptr 3 0), (10, .ptr 4 0), (16, .ptr 5 0), (18, .ptr 6 0), (19, .ptr 7 0), (116, .int .i64 ((c : Int) + 1)), (117, .int .i64 i)],
      [some (.cells (flatE spanE G1) e1), some (.cells [roV zb bs.length (flatE (intE .u8) bs)] true), some (.cells [.int .i64 s.off, .int .i64 s.len] true), some (.cells [.fn (.func 30) [] [.ptr 1 0]] true), some (.cells [.int .i64 bs.length, .sl 10 0 (c + 1) 3] true), some (.cells [.int .i64 bs.length, .sl 11 0 (c + 1) 3] true), some (.cells [.int .i64 bs.length, .sl 12 0 (c + 1) 3] true), some (.cells [.int .i64 bs.length, .sl 13 0 (c + 1) 3] true), none, none,
      some (.cells (flatE pieceE X) false), some (.cells (flatE pieceE (joinL X X)) false), some (.cells (flatE pieceE (mixN X X i)) false), some (.cells (flatE pieceE X) false)]))
    (fun i => i ≤ c + 1) (fun i => c + 1 - i) 0
  case hI => simp
  case hq => omega
  case ht => cases e1 <;> simp -implicitDefEqProofs [liveOf, coldOf, mixN_zero]
  case round =>
    rintro i hi _
    clear hx
    by_cases hlt : i < c + 1
    · have hlt2 : (i : Int) < (c : Int) + 1 := by omega
      have e2' : addI .i64 (i : Int) 1 = (i : Int) + 1 := addI_i64 (by omega) (by omega)
      have hXi : i < X.length := by omega
      have hYi : i < X.length := by omega
      have hmi : (mixN X X i)[i]'(by simpa using hXi) = X[i] := by rw [mixN_at _ _ _ _ _ hXi hYi, if_neg (by omega)]
      have dm := drop_pieces (mixN X X i) i (by simpa using hXi)
      rw [hmi] at dm
      have dy := drop_pieces X i hYi
      have nx := mixN_next X X i hXi (by omega)
      have tk : List.take (i * 3) (flatE pieceE (mixN X X i)) = flatE pieceE ((mixN X X i).take i) := take_flatE' (n := 3) pieceE rfl _ i
      have dr : List.drop (i * 3 + 3) (flatE pieceE (mixN X X i)) = flatE pieceE ((mixN X X i).drop (i + 1)) := by rw [show i * 3 + 3 = (i + 1) * 3 by omega]; exact drop_flatE' (n := 3) pieceE rfl _ (i + 1)
      have h3 : i * 3 + 3 ≤ (c + 1) * 3 := by omega
      have h4 : 3 ≤ X.length * 3 - i * 3 := by omega
      have h5 : 3 ≤ X.length * 3 - i * 3 := by omega
      clear hmi
      generalize X[i] = p at *
      cases hh : p.hid with
      | true =>
        rw [if_pos hh] at nx
        rw [hh] at dm
        rw [hh] at dy
        simp -implicitDefEqProofs [hlt, hlt2, e2', dm, dy, h3, h4, h5, lX, lX]
        refine rnd_next (i + 1) (by omega) (by omega) (by cases e1 <;> simp -implicitDefEqProofs [liveOf, coldOf, nx, tk, dr, pieceE_f, hh])
      | false =>
        rw [if_neg (by rw [hh]; simp)] at nx
        rw [hh] at dm
        simp -implicitDefEqProofs [hlt, hlt2, e2', dm, dy, h3, h4, h5, lX, lX]
        refine rnd_next (i + 1) (by omega) (by omega) (by cases e1 <;> simp -implicitDefEqProofs [liveOf, coldOf, nx])
    · have hi' : i = c + 1 := by omega
      subst hi'
      have hlt2 : ¬ ((c : Int) + 1 < (c : Int) + 1) := by omega
      have lJ := joinL_length X X
      rw [lX] at lJ
      have pz := samePieces_ok bs.length bs.length (joinL X X) (mixN X X (c + 1)) false false (by omega) (k := k + 1) (by omega)
      rw [mj, lJ, mixN_length, lX] at pz
      simp only [roV_false] at pz
      have tJ : List.take ((c + 1) * 3) (flatE pieceE (joinL X X)) = flatE pieceE (joinL X X) := by rw [List.take_of_length_le]; simp [lJ]
      have tM : List.take ((c + 1) * 3) (flatE pieceE (mixN X X (c + 1))) = flatE pieceE (mixN X X (c + 1)) := by rw [List.take_of_length_le]; simp [lX]
      have cls := clo30 s zb bs hbl (k := k)
      cases hin : insideB s bs.length with
      | false =>
        rw [hin] at cls
        have rb := read_bad bs.length X false (by omega) (by omega) fX s (fun h => by rw [(inside_iff s bs.length (by omega)).2 h] at hin; cases hin) (k := k + 1) (by omega)
        rw [lX] at rb
        simp only [roV_false] at rb
        simp -implicitDefEqProofs [hlt2, pz, tJ, tM, tX, rb, cls]
      | true =>
        rw [hin] at cls
        obtain ⟨⟨ho1, ho2, ho3, ho4⟩, hse⟩ := (inside_iff s bs.length (by omega)).1 hin
        obtain ⟨off, hoff⟩ : ∃ off : Nat, s.off = off := ⟨s.off.toNat, by omega⟩
        obtain ⟨len, hlen⟩ : ∃ len : Nat, s.len = len := ⟨s.len.toNat, by omega⟩
        rw [hoff, hlen] at cls hse
        have rr := read_ok bs.length X false (by omega) (by omega) fX off len (by omega) (k := k + 1) (by omega)
        rw [lX] at rr
        simp only [roV_false] at rr
        have ee : addI .i64 (off : Int) (len : Int) = (off : Int) + len := addI_i64 (by omega) (by omega)
        have hq : ∀ j : Nat, off + j < bs.length → quoI .i64 ((off : Int) + (j : Int)) 64 = ((off + j) / 64 : Nat) := fun j hj => by
          rw [quoI_eq, Int.tdiv_eq_ediv_of_nonneg (by omega), wrap_i64 (by omega) (by omega)]; omega
        have e1' : ∀ j : Nat, off + j < bs.length → addI .i64 ((off : Int) + (j : Int)) 1 = (off : Int) + ((j : Int) + 1) := fun j hj => by rw [addI_i64 (by omega) (by omega)]; omega
        have hXi : ∀ j : Nat, off + j < bs.length → (off + j) / 64 < X.length := fun j hj => by rw [lX, ← hc]; unfold blocksN; omega
        rcases rr with ⟨⟨kk, hk1, hk2, hk3⟩, rr⟩ | ⟨hvis, rr⟩
        · simp -implicitDefEqProofs [hlt2, pz, tJ, tM, tX, rr, cls, hoff, hlen, bA]
          generalize hx : evLoopC _ _ _ _ _ _ _ _ _ _ = R
          apply loop_gen hx (fun j : Nat => (mkL 200 .junk [(4, .ptr 0 0), (7, .ptr 1 0), (21, .nils), (22, .int .i64 18), (23, .ptr 3 0), (24, .int .i64 ((off + j : Nat) : Int))],
              [some (.cells [roV zb bs.length (flatE (intE .u8) bs)] true), some (.cells [.int .i64 off, .int .i64 len] true), none, some (.cells [.int .i64 bs.length, .sl 5 0 (c + 1) 3] true), none, some (.cells (flatE pieceE X) false)]))
            (fun j => off + j ≤ kk) (fun j => kk - (off + j)) 0
          case hI => simp; omega
          case hq => omega
          case ht => simp -implicitDefEqProofs [liveOf, coldOf]
          case round =>
            rintro j hj _
            clear hx
            have hlt2 : (off : Int) + (j : Int) < (off : Int) + len := by omega
            have q1 := hq j (by omega)
            have q2 := e1' j (by omega)
            have hi := hXi j (by omega)
            have mp := drop_pieces X ((off + j) / 64) hi
            have h5 : 3 ≤ X.length * 3 - (off + j) / 64 * 3 := by omega
            have hil : ((off + j) / 64 : Nat) < (X.length : Int) := by omega
            have hgd : X.getD ((off + j) / 64) default = X[(off + j) / 64] := by rw [List.getD_eq_getElem?_getD, List.getElem?_eq_getElem hi]; rfl
            have hhid : hidAt X (off + j) = (X[(off + j) / 64]).hid := by unfold hidAt; rw [hgd]
            have hkk : off + j = kk → hidAt X (off + j) = true := fun h => by rw [h]; exact hk3
            have hjk : hidAt X (off + j) = false → off + (j + 1) ≤ kk := fun h => by
              rcases Nat.lt_or_ge (off + j) kk with h1 | h1
              · omega
              · rw [hkk (by omega)] at h; cases h
            generalize X[(off + j) / 64] = p at *
            generalize (off + j) / 64 = i at *
            have hil2 : (i : Int) < (c : Int) + 1 := by omega
            have h6 : i < c + 1 := by omega
            rw [lX] at h5
            cases hh : p.hid with
            | true =>
              rw [hh] at mp
              simp -implicitDefEqProofs [ee, hlt2, q1, q2, mp, h5, hil2, h6, lX]
            | false =>
              rw [hh] at mp
              have hnx := hjk (by rw [hhid, hh])
              simp -implicitDefEqProofs [ee, hlt2, q1, q2, mp, h5, hil2, h6, lX]
              exact rnd_next (j + 1) hnx (by omega) (by simp -implicitDefEqProofs [liveOf, coldOf])
        · have hbr := br off len (by omega) hvis
          have lbr : (List.take len (List.drop off bs)).length = len := by simp; omega
          rw [hbr] at rr
          have cq := bytesEqual_ok (List.take len (List.drop off bs)) (List.take len (List.drop off bs)) false false (k := k + 1)
          rw [eqBytes_refl, lbr] at cq
          simp only [roV_false] at cq
          have tdb : List.take len (List.drop off (flatE (intE .u8) bs)) = flatE (intE .u8) (List.take len (List.drop off bs)) := by
            rw [drop_flatE1 (intE .u8) rfl, take_flatE1 (intE .u8) rfl]
          cases len with
          | zero =>
            have cq := bytesEqual_ok [] [] true (zb && bs.length == 0) (k := k + 1)
            rw [eqBytes_refl] at cq
            simp at rr cq ee tdb cls
            simp -implicitDefEqProofs [hlt2, pz, tJ, tM, tX, rr, cls, hoff, hlen, bA]
            generalize hx : evLoopC _ _ _ _ _ _ _ _ _ _ = R
            apply loop_gen hx (fun j : Nat => (mkL 200 .junk [(4, .ptr 0 0), (7, .ptr 1 0), (21, .nils), (22, .int .i64 0), (23, .ptr 3 0), (24, .int .i64 ((off + j : Nat) : Int))],
                [some (.cells [roV zb bs.length (flatE (intE .u8) bs)] true), some (.cells [.int .i64 off, .int .i64 0] true), none, some (.cells [.int .i64 bs.length, .sl 5 0 (c + 1) 3] true), none, some (.cells (flatE pieceE X) false)]))
              (fun j => j ≤ 0) (fun j => 0 - j) 0
            case hI => simp
            case hq => omega
            case ht => simp -implicitDefEqProofs [liveOf, coldOf]
            case round =>
              rintro j hj _
              clear hx
              obtain rfl : j = 0 := by omega
              have hob : off ≤ bs.length := by omega
              simp -implicitDefEqProofs [ee, tdb, cq, hob]
          | succ len =>
            generalize List.take (len + 1) (List.drop off bs) = Q at *
            have cq := bytesEqual_ok Q Q false false (k := k + 1)
            rw [eqBytes_refl, lbr] at cq
            simp only [roV_false] at cq
            have tQ : List.take (len + 1) (flatE (intE .u8) Q) = flatE (intE .u8) Q := by rw [List.take_of_length_le]; simp [lbr]
            simp at rr ee cls
            simp -implicitDefEqProofs [hlt2, pz, tJ, tM, tX, rr, cls, hoff, hlen, bA]
            generalize hx : evLoopC _ _ _ _ _ _ _ _ _ _ = R
            apply loop_gen hx (fun j : Nat => (mkL 200 .junk [(4, .ptr 0 0), (7, .ptr 1 0), (21, .sl 2 0 (len + 1) 1), (22, .int .i64 0), (23, .ptr 3 0), (24, .int .i64 ((off + j : Nat) : Int))],
                [some (.cells [roV zb bs.length (flatE (intE .u8) bs)] true), some (.cells [.int .i64 off, .int .i64 ((len : Int) + 1)] true), some (.cells (flatE (intE .u8) Q) false), some (.cells [.int .i64 bs.length, .sl 5 0 (c + 1) 3] true), none, some (.cells (flatE pieceE X) false)]))
              (fun j => j ≤ len + 1) (fun j => len + 1 - j) 0
            case hI => simp
            case hq => omega
            case ht => simp -implicitDefEqProofs [liveOf, coldOf]
            case round =>
              rintro j hj _
              clear hx
              by_cases hlt : j < len + 1
              · have hlt2 : (off : Int) + (j : Int) < (off : Int) + (len + 1) := by omega
                have q1 := hq j (by omega)
                have q2 := e1' j (by omega)
                have hi := hXi j (by omega)
                have mp := drop_pieces X ((off + j) / 64) hi
                have h5 : 3 ≤ X.length * 3 - (off + j) / 64 * 3 := by omega
                have hil : ((off + j) / 64 : Nat) < (X.length : Int) := by omega
                have hgd : X.getD ((off + j) / 64) default = X[(off + j) / 64] := by rw [List.getD_eq_getElem?_getD, List.getElem?_eq_getElem hi]; rfl
                have hhid : hidAt X (off + j) = (X[(off + j) / 64]).hid := by unfold hidAt; rw [hgd]
                have hh := hvis (off + j) (by omega) (by omega)
                rw [hhid] at hh
                clear hhid hgd
                generalize X[(off + j) / 64] = p at *
                generalize (off + j) / 64 = i at *
                have hil2 : (i : Int) < (c : Int) + 1 := by omega
                have h6 : i < c + 1 := by omega
                rw [lX] at h5
                rw [hh] at mp
                simp -implicitDefEqProofs [ee, hlt2, q1, q2, mp, h5, hil2, h6, lX]
                exact rnd_next (j + 1) (by omega) (by omega) (by simp -implicitDefEqProofs [liveOf, coldOf])
              · have hj' : j = len + 1 := by omega
                subst hj'
                have hlt2 : ¬ ((off : Int) + ((len : Int) + 1) < (off : Int) + ((len : Int) + 1)) := by omega
                have hob : off + (len + 1) ≤ bs.length := by omega
                have hnb : (0 : Int) ≤ (off : Int) + ((len : Int) + 1) := by omega
                have htn : ((off : Int) + ((len : Int) + 1)).toNat = off + (len + 1) := by omega
                have hsub : off + (len + 1) - off = len + 1 := by omega
                simp -implicitDefEqProofs [ee, hlt2, tQ, tdb, cq, hob, hnb, htn, hsub]
end Go.Ev.Try

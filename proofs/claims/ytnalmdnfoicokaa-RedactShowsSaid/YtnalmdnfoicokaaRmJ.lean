/-
  THE REDACT SEAT: redact.Make walked (own work, printed by wip/tools/gen_make.py).
-/
import Derived.Test.YtnalmdnfoicokaaRdJ
set_option linter.unusedSimpArgs false
set_option linter.unusedVariables false
set_option maxRecDepth 100000
set_option maxHeartbeats 4000000
namespace Go.Ev.Try
open Go Go.Ev Go.Proofs

theorem make_rr (bs : List Int) (zb : Bool) (l : List Span) (zl : Bool) (h1 : 1 ≤ bs.length) (hn : bs.length ≤ 65536) (hl : l.length ≤ 4096) (hw : Within bs.length l) {k : Nat} (hk : 200000 < k) :
    evF Try.prog Γ (k + 1) 8 [roV zb bs.length (flatE (intE .u8) bs), roV zl l.length (flatE spanE l)] [] = some (.tup [.agg [.int .i64 bs.length, .sl 0 0 (blocksN bs.length) 3], .int .i64 0], [some (.cells (flatE pieceE (piecesOf zb bs (touched l bs.length))) false)]) := by
  obtain ⟨k, rfl⟩ : ∃ j, k = j + 2 := ⟨k - 2, by omega⟩
  rw [b8 (fun _ _ => rfl) _ _ (by simp)]
  have hnl : ¬ 65536 < bs.length := by omega
  have hnl2 : ¬ (65536 : Int) < bs.length := by omega
  have h0n : ¬ bs.length = 0 := by omega
  have h0b : (bs.length == 0) = false := by simpa using h0n
  have hem : bs.isEmpty = false := by cases h : bs with | nil => rw [h] at h1; simp at h1 | cons _ _ => rfl
  have hcl : ¬ (4096 : Int) < l.length := by omega
  have hcl2 : ¬ 4096 < l.length := by omega
  simp -implicitDefEqProofs [hnl, hnl2, hcl, hcl2]
  generalize hx : evLoopC _ _ _ _ _ _ _ _ _ _ = R
  apply loop_gen hx (fun i : Nat => (mkL 91 .junk [(0, roV zb bs.length (flatE (intE .u8) bs)), (1, roV zl l.length (flatE spanE l)), (4, .ptr 2 0), (22, roV zl l.length (flatE spanE l)), (23, .int .i64 (l.length)), (24, .int .i64 i)],
      [none, none, some (.cells [.int .i64 0, .nils] true), none, none])) (fun i => i ≤ l.length) (fun i => l.length - i) 0
  case hI => simp
  case hq => omega
  case ht => simp -implicitDefEqProofs [liveOf, coldOf]
  case round =>
    rintro i hi _
    clear hx
    by_cases hlt : i < l.length
    · have hlt2 : (i : Int) < l.length := by omega
      have hltL : i < l.length := by omega
      have e2 : addI .i64 (i : Int) 1 = (i : Int) + 1 := addI_i64 (by omega) (by omega)
      have ms := at_spans l i hltL
      have hin := hw _ (List.getElem_mem hltL)
      have cc := check_ok l[i] (k := k + 1)
      generalize l[i] = s at *
      have hok : s.ok := ⟨hin.1, hin.2.1, by omega, by omega⟩
      rw [if_pos hok] at cc
      have h3 : 2 ≤ l.length * 2 - i * 2 := by omega
      have e3 : addI .i64 s.off s.len = s.off + s.len := addI_i64 (by omega) (by omega)
      have hle : ¬ (bs.length : Int) < s.off + s.len := by omega
      simp -implicitDefEqProofs [hlt, hlt2, e2, e3, ms, cc, h3, hle]
      exact rnd_next (i + 1) hlt (by omega) (by simp -implicitDefEqProofs [liveOf, coldOf])
    · have hi' : i = l.length := by omega
      subst hi'
      have cn := norm_ok l zl (by omega) (k := k + 1) (by omega)
      have nf := norm_facts l
      have cb := blocks_ok bs.length (by omega) (k := k + 1)
      have hcm : ∀ p, common (normL l) [p] ↔ common l [p] := fun p => by unfold common; simp only [nf.2.2]
      have hTd : ∀ i, touched l bs.length i = true ↔ common (normL l) [⟨(i : Int) * 64, placeL bs.length i⟩] := fun i => by rw [hcm]; exact touched_iff _ _ _
      have hNl : (normL l).length ≤ 4096 := Nat.le_trans nf.2.1 (by omega)
      clear nf hcm
      generalize hTT : touched l bs.length = T at *
      generalize normL l = N at *
      have hbN : blocksN bs.length ≤ 1024 := by unfold blocksN; omega
      cases hN0 : N.length with
      | zero =>
        have hnil : N = [] := List.length_eq_zero_iff.1 hN0
        subst hnil
        simp at cn
        simp -implicitDefEqProofs [cn, cb, h0n, h0b, hcl, hcl2]
        generalize hx : evLoopC _ _ _ _ _ _ _ _ _ _ = R
        apply loop_gen hx (fun a : Nat × List Piece => (mkL 91 .junk [(0, roV zb bs.length (flatE (intE .u8) bs)), (4, .ptr 1 0), (8, .nils), (9, .ptr 3 0), (50, .int .i64 (blocksN bs.length)), (51, .int .i64 a.1)],
            [none, some (.cells [.int .i64 0, .nils] true), none, some (.cells [.int .i64 bs.length, ownV true 5 0 a.2.length 3] true), none, ownB true a.2.length (flatE pieceE a.2)]))
          (fun a => a.1 ≤ blocksN bs.length ∧ a.2 = (List.range a.1).map (pieceOf zb bs T)) (fun a => blocksN bs.length - a.1) (0, [])
        case hI => simp
        case hq => simp only; omega
        case ht => simp -implicitDefEqProofs [liveOf, coldOf]
        case round =>
          rintro ⟨i, Q⟩ ⟨hi, hQ⟩ _
          clear hx
          simp only at hi hQ
          have hQl : Q.length = i := by rw [hQ]; simp
          by_cases hlt : i < blocksN bs.length
          · have hlt2 : (i : Int) < (blocksN bs.length : Int) := by omega
            have e2 : addI .i64 (i : Int) 1 = (i : Int) + 1 := addI_i64 (by omega) (by omega)
            have cp := place_ok bs.length i (by omega) (by omega) (k := k + 1)
            obtain ⟨q, hq, hq64, hqn, hbl, hbl0, hq0⟩ := block_facts bs i hlt
            have hTi := hTd i
            obtain ⟨O, cm, hO⟩ := meet_ok [] [⟨(i : Int) * 64, placeL bs.length i⟩] true false (by omega) (by simp) (k := k + 1) (by simp only [List.length_singleton]; omega)
            rw [← hTi] at hO
            simp [spanE_f] at cm
            rw [hq] at cm cp
            have e3 : addI .i64 ((i : Int) * 64) (q : Int) = (i : Int) * 64 + q := addI_i64 (by omega) (by omega)
            have hs : (List.range (i + 1)).map (pieceOf zb bs T) = Q ++ [pieceOf zb bs T i] := by rw [List.range_succ, List.map_append, ← hQ]; rfl
            have w : List.take q (List.drop (i * 64) (flatE (intE .u8) bs)) = flatE (intE .u8) (blockL bs i) := by rw [drop_flatE1 (intE .u8) rfl, take_flatE1 (intE .u8) rfl, hbl]
            have wt : List.take q (flatE (intE .u8) (blockL bs i)) = flatE (intE .u8) (blockL bs i) := by rw [List.take_of_length_le]; simp [hbl0]
            have ch := hash_ok (blockL bs i) false (by omega) (k := k + 1) (by omega)
            have cl := clone_ok (blockL bs i) false (by omega) (k := k + 1)
            rw [hbl0] at ch cl
            simp at ch cl
            have e5 : 0 ≤ (i : Int) * 64 := by omega
            have e6 : ((i : Int) * 64).toNat = i * 64 := by omega
            have e7 : 0 ≤ (i : Int) * 64 + q := by omega
            have e8 : ((i : Int) * 64 + q).toNat = i * 64 + q := by omega
            have e9 : i * 64 ≤ i * 64 + q := by omega
            have hqq : i * 64 + q - i * 64 = q := by omega
            have hbe : (blockL bs i).isEmpty = false := by cases h : blockL bs i with | nil => rw [h] at hbl0; simp at hbl0; omega | cons _ _ => rfl
            cases hTv : T i with
            | true =>
              have hOne : O ≠ [] := hO.2 hTv
              obtain ⟨o, hOl⟩ : ∃ o, O.length = o + 1 := ⟨O.length - 1, by have := List.length_pos_iff.2 hOne; omega⟩
              rw [hOl] at cm
              simp at cm
              have hop : (0 : Int) < (o : Int) + 1 := by omega
              cases hQ0 : Q.length with
              | zero =>
                have hnilQ : Q = [] := List.length_eq_zero_iff.1 hQ0
                subst hnilQ
                have hi0 : i = 0 := by simpa using hQl.symm
                subst hi0
                simp at cp e3 cm w wt ch cl hqn hlt2 e2
                simp -implicitDefEqProofs [hlt, hlt2, e2, cp, e3, hqn, hqq, w, cm, hop, ch, h0n, h0b]
                refine rnd_next (1, [pieceOf zb bs T 0]) ⟨hlt, rfl⟩ (by simp only; omega) (by simp -implicitDefEqProofs [liveOf, coldOf, pieceE_f, pieceOf, hTv, hbl0, w, wt, hbe, hem])
              | succ r =>
                have hb : (r + 1 + 1) * 40 ≤ 140737488355328 := by omega
                simp -implicitDefEqProofs [hlt, hlt2, e2, cp, e3, e5, e6, e7, e8, e9, hqn, hqq, w, cm, hop, ch, hQ0, hb, h0n, h0b]
                refine rnd_next (i + 1, Q ++ [pieceOf zb bs T i]) ⟨hlt, hs.symm⟩ (by simp only; omega) (by simp -implicitDefEqProofs [liveOf, coldOf, pieceE_f, pieceOf, hTv, hbl0, w, wt, hbe, hQ0, hem])
            | false =>
              have hOne : O = [] := by
                refine Classical.byContradiction fun h => ?_
                rw [hO.1 h] at hTv; cases hTv
              subst hOne
              simp at cm
              rw [hbe] at cl
              cases hQ0 : Q.length with
              | zero =>
                have hnilQ : Q = [] := List.length_eq_zero_iff.1 hQ0
                subst hnilQ
                have hi0 : i = 0 := by simpa using hQl.symm
                subst hi0
                simp at cp e3 cm w wt ch cl hqn hlt2 e2
                simp -implicitDefEqProofs [hlt, hlt2, e2, cp, e3, hqn, hqq, w, cm, cl, h0n, h0b]
                refine rnd_next (1, [pieceOf zb bs T 0]) ⟨hlt, rfl⟩ (by simp only; omega) (by simp -implicitDefEqProofs [liveOf, coldOf, pieceE_f, pieceOf, hTv, hbl0, w, wt, hbe, hem])
              | succ r =>
                have hb : (r + 1 + 1) * 40 ≤ 140737488355328 := by omega
                simp -implicitDefEqProofs [hlt, hlt2, e2, cp, e3, e5, e6, e7, e8, e9, hqn, hqq, w, cm, cl, hQ0, hb, h0n, h0b]
                refine rnd_next (i + 1, Q ++ [pieceOf zb bs T i]) ⟨hlt, hs.symm⟩ (by simp only; omega) (by simp -implicitDefEqProofs [liveOf, coldOf, pieceE_f, pieceOf, hTv, hbl0, w, wt, hbe, hQ0, hem])
          · have hi' : i = blocksN bs.length := by omega
            subst hi'
            have hfin : Q = piecesOf zb bs T := hQ
            obtain ⟨r, hr⟩ : ∃ r, blocksN bs.length = r + 1 := ⟨blocksN bs.length - 1, by have := blocksN_pos bs.length; omega⟩
            have hlt2 : ¬ (blocksN bs.length : Int) < (blocksN bs.length : Int) := by omega
            rw [← hfin]
            rw [hr] at hQl
            simp -implicitDefEqProofs [hlt, hlt2, hQl, hr]
      | succ d =>
        rw [hN0] at cn
        simp at cn
        simp -implicitDefEqProofs [cn, cb, h0n, h0b, hcl, hcl2]
        generalize hx : evLoopC _ _ _ _ _ _ _ _ _ _ = R
        apply loop_gen hx (fun a : Nat × List Piece => (mkL 91 .junk [(0, roV zb bs.length (flatE (intE .u8) bs)), (4, .ptr 1 0), (8, .sl 2 0 (d + 1) 2), (9, .ptr 3 0), (50, .int .i64 (blocksN bs.length)), (51, .int .i64 a.1)],
            [none, some (.cells [.int .i64 0, .nils] true), some (.cells (flatE spanE N) false), some (.cells [.int .i64 bs.length, ownV true 5 0 a.2.length 3] true), none, ownB true a.2.length (flatE pieceE a.2)]))
          (fun a => a.1 ≤ blocksN bs.length ∧ a.2 = (List.range a.1).map (pieceOf zb bs T)) (fun a => blocksN bs.length - a.1) (0, [])
        case hI => simp
        case hq => simp only; omega
        case ht => simp -implicitDefEqProofs [liveOf, coldOf]
        case round =>
          rintro ⟨i, Q⟩ ⟨hi, hQ⟩ _
          clear hx
          simp only at hi hQ
          have hQl : Q.length = i := by rw [hQ]; simp
          by_cases hlt : i < blocksN bs.length
          · have hlt2 : (i : Int) < (blocksN bs.length : Int) := by omega
            have e2 : addI .i64 (i : Int) 1 = (i : Int) + 1 := addI_i64 (by omega) (by omega)
            have cp := place_ok bs.length i (by omega) (by omega) (k := k + 1)
            obtain ⟨q, hq, hq64, hqn, hbl, hbl0, hq0⟩ := block_facts bs i hlt
            have hTi := hTd i
            obtain ⟨O, cm, hO⟩ := meet_ok N [⟨(i : Int) * 64, placeL bs.length i⟩] true false (by omega) (by simp) (k := k + 1) (by simp only [List.length_singleton]; omega)
            rw [← hTi] at hO
            rw [hN0] at cm
            simp [spanE_f] at cm
            rw [hq] at cm cp
            have e3 : addI .i64 ((i : Int) * 64) (q : Int) = (i : Int) * 64 + q := addI_i64 (by omega) (by omega)
            have hs : (List.range (i + 1)).map (pieceOf zb bs T) = Q ++ [pieceOf zb bs T i] := by rw [List.range_succ, List.map_append, ← hQ]; rfl
            have w : List.take q (List.drop (i * 64) (flatE (intE .u8) bs)) = flatE (intE .u8) (blockL bs i) := by rw [drop_flatE1 (intE .u8) rfl, take_flatE1 (intE .u8) rfl, hbl]
            have wt : List.take q (flatE (intE .u8) (blockL bs i)) = flatE (intE .u8) (blockL bs i) := by rw [List.take_of_length_le]; simp [hbl0]
            have ch := hash_ok (blockL bs i) false (by omega) (k := k + 1) (by omega)
            have cl := clone_ok (blockL bs i) false (by omega) (k := k + 1)
            rw [hbl0] at ch cl
            simp at ch cl
            have e5 : 0 ≤ (i : Int) * 64 := by omega
            have e6 : ((i : Int) * 64).toNat = i * 64 := by omega
            have e7 : 0 ≤ (i : Int) * 64 + q := by omega
            have e8 : ((i : Int) * 64 + q).toNat = i * 64 + q := by omega
            have e9 : i * 64 ≤ i * 64 + q := by omega
            have hqq : i * 64 + q - i * 64 = q := by omega
            have tN : List.take ((d + 1) * 2) (flatE spanE N) = flatE spanE N := by rw [List.take_of_length_le]; simp [hN0]
            have hbe : (blockL bs i).isEmpty = false := by cases h : blockL bs i with | nil => rw [h] at hbl0; simp at hbl0; omega | cons _ _ => rfl
            cases hTv : T i with
            | true =>
              have hOne : O ≠ [] := hO.2 hTv
              obtain ⟨o, hOl⟩ : ∃ o, O.length = o + 1 := ⟨O.length - 1, by have := List.length_pos_iff.2 hOne; omega⟩
              rw [hOl] at cm
              simp at cm
              have hop : (0 : Int) < (o : Int) + 1 := by omega
              cases hQ0 : Q.length with
              | zero =>
                have hnilQ : Q = [] := List.length_eq_zero_iff.1 hQ0
                subst hnilQ
                have hi0 : i = 0 := by simpa using hQl.symm
                subst hi0
                simp at cp e3 cm w wt ch cl hqn hlt2 e2
                simp -implicitDefEqProofs [hlt, hlt2, e2, cp, e3, hqn, hqq, w, cm, hop, ch, tN, h0n, h0b]
                refine rnd_next (1, [pieceOf zb bs T 0]) ⟨hlt, rfl⟩ (by simp only; omega) (by simp -implicitDefEqProofs [liveOf, coldOf, pieceE_f, pieceOf, hTv, hbl0, w, wt, hbe, tN, hem])
              | succ r =>
                have hb : (r + 1 + 1) * 40 ≤ 140737488355328 := by omega
                simp -implicitDefEqProofs [hlt, hlt2, e2, cp, e3, e5, e6, e7, e8, e9, hqn, hqq, w, cm, hop, ch, hQ0, hb, tN, h0n, h0b]
                refine rnd_next (i + 1, Q ++ [pieceOf zb bs T i]) ⟨hlt, hs.symm⟩ (by simp only; omega) (by simp -implicitDefEqProofs [liveOf, coldOf, pieceE_f, pieceOf, hTv, hbl0, w, wt, hbe, hQ0, tN, hem])
            | false =>
              have hOne : O = [] := by
                refine Classical.byContradiction fun h => ?_
                rw [hO.1 h] at hTv; cases hTv
              subst hOne
              simp at cm
              rw [hbe] at cl
              cases hQ0 : Q.length with
              | zero =>
                have hnilQ : Q = [] := List.length_eq_zero_iff.1 hQ0
                subst hnilQ
                have hi0 : i = 0 := by simpa using hQl.symm
                subst hi0
                simp at cp e3 cm w wt ch cl hqn hlt2 e2
                simp -implicitDefEqProofs [hlt, hlt2, e2, cp, e3, hqn, hqq, w, cm, cl, tN, h0n, h0b]
                refine rnd_next (1, [pieceOf zb bs T 0]) ⟨hlt, rfl⟩ (by simp only; omega) (by simp -implicitDefEqProofs [liveOf, coldOf, pieceE_f, pieceOf, hTv, hbl0, w, wt, hbe, tN, hem])
              | succ r =>
                have hb : (r + 1 + 1) * 40 ≤ 140737488355328 := by omega
                simp -implicitDefEqProofs [hlt, hlt2, e2, cp, e3, e5, e6, e7, e8, e9, hqn, hqq, w, cm, cl, hQ0, hb, tN, h0n, h0b]
                refine rnd_next (i + 1, Q ++ [pieceOf zb bs T i]) ⟨hlt, hs.symm⟩ (by simp only; omega) (by simp -implicitDefEqProofs [liveOf, coldOf, pieceE_f, pieceOf, hTv, hbl0, w, wt, hbe, hQ0, tN, hem])
          · have hi' : i = blocksN bs.length := by omega
            subst hi'
            have hfin : Q = piecesOf zb bs T := hQ
            obtain ⟨r, hr⟩ : ∃ r, blocksN bs.length = r + 1 := ⟨blocksN bs.length - 1, by have := blocksN_pos bs.length; omega⟩
            have hlt2 : ¬ (blocksN bs.length : Int) < (blocksN bs.length : Int) := by omega
            rw [← hfin]
            rw [hr] at hQl
            simp -implicitDefEqProofs [hlt, hlt2, hQl, hr]
end Go.Ev.Try

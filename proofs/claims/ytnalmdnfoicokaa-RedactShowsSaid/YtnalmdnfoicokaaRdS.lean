/-
  THE REDACT SEAT: redact.Hide walked (own work, printed by wip/tools/gen_hide.py).
-/
import Derived.Test.YtnalmdnfoicokaaRdO
import Derived.Test.YtnalmdnfoicokaaRdC3
set_option linter.unusedSimpArgs false
set_option linter.unusedVariables false
set_option maxRecDepth 100000
set_option maxHeartbeats 16000000
namespace Go.Ev.Try
open Go Go.Ev Go.Proofs

noncomputable def hideP (t : Bool) (p : Piece) : Piece := cloneP (if !p.hid && t then ⟨true, true, [], hash p.bs⟩ else p)
noncomputable def hideL (ps : List Piece) (T : Nat → Bool) : List Piece := (List.range ps.length).map fun i => hideP (T i) (ps.getD i default)

theorem hide_n (n : Nat) (ps : List Piece) (c : Nat) (hn : n ≤ 65536) (hc : blocksN n = c + 1) (hp : ps.length = c + 1) (ap : allOk n ps = true) {k : Nat} (hk : 200000 < k) :
    evF Try.prog Γ (k + 1) 24 [.agg [.int .i64 n, .sl 0 0 (c + 1) 3], .nils] [some (.cells (flatE pieceE ps) false)] = some (.tup [.agg [.int .i64 n, .sl 1 0 (c + 1) 3], .int .i64 0], [some (.cells (flatE pieceE ps) false), some (.cells (flatE pieceE (hideL ps (touched [] n))) false)]) := by
  obtain ⟨k, rfl⟩ : ∃ j, k = j + 2 := ⟨k - 2, by omega⟩
  have hB : blocksN n ≤ 1024 := by unfold blocksN; omega
  have bp := allOk_len ap
  have tp : List.take ((c + 1) * 3) (flatE pieceE ps) = flatE pieceE ps := by rw [List.take_of_length_le]; simp [hp]
  have cc := exCheck_ok n ps false (fun p hp => by have := bp p hp; omega) (by omega) (k := k + 1) (by omega)
  have hcr : checkR n ps = 0 := by
    unfold checkR
    rw [if_neg (by omega), if_pos ⟨by simp; omega, by simpa using ap⟩]
  rw [hcr, hp] at cc
  simp only [roV_false] at cc
  have cn := norm_ok [] true (by simp) (k := k + 1) (by simp only [List.length_nil]; omega)
  simp at cn
  have nf := norm_facts []
  have hcm : ∀ p, common (normL []) [p] ↔ common [] [p] := fun p => by unfold common; simp only [nf.2.2]
  have hTd : ∀ i, touched [] n i = true ↔ common (normL []) [⟨(i : Int) * 64, placeL n i⟩] := fun i => by rw [hcm]; exact touched_iff _ _ _
  have hNl : (normL []).length ≤ 4096 := Nat.le_trans nf.2.1 (by simp)
  clear nf hcm
  generalize touched [] n = T at *
  generalize normL [] = N at *
  have h00 : ¬ 4096 < 0 := by omega
  rw [b24 (fun _ _ => rfl) _ _ (by simp)]
  simp -implicitDefEqProofs [cc, tp]
  generalize hx : evLoopC _ _ _ _ _ _ _ _ _ _ = R0
  apply loop_gen hx (fun i : Nat => (mkL 87 .junk [(1, .nils), (2, .ptr 2 0), (4, .ptr 3 0), (23, .nils), (24, .int .i64 0), (25, .int .i64 i)],
      [some (.cells (flatE pieceE ps) false), none, some (.cells [.int .i64 n, .sl 0 0 (c + 1) 3] true), some (.cells [.int .i64 0, .nils] true), none, none, none])) (fun i => i ≤ 0) (fun i => 0 - i) 0
  case hI => simp
  case hq => omega
  case ht => simp -implicitDefEqProofs [liveOf, coldOf]
  case round =>
    rintro i hi _
    clear hx
    by_cases hlt : i < 0
    · omega
    · have hi' : i = 0 := by omega
      subst hi'
      cases hN0 : N.length with
      | zero =>
        have hnil : N = [] := List.length_eq_zero_iff.1 hN0
        subst hnil
        simp at cn
        simp -implicitDefEqProofs [cn]
        generalize hx : evLoopC _ _ _ _ _ _ _ _ _ _ = R0
        apply loop_gen hx (fun a : Nat × List Piece => (mkL 87 .junk [(2, .ptr 1 0), (4, .ptr 2 0), (9, .nils), (10, .ptr 4 0), (50, .sl 0 0 (c + 1) 3), (51, .int .i64 ((c : Int) + 1)), (52, .int .i64 a.1)],
            [some (.cells (flatE pieceE ps) false), some (.cells [.int .i64 n, .sl 0 0 (c + 1) 3] true), some (.cells [.int .i64 0, .nils] true), none, some (.cells [.int .i64 n, ownV true 8 0 a.2.length 3] true), none, none, none, ownB true a.2.length (flatE pieceE a.2)]))
          (fun a => a.1 ≤ c + 1 ∧ a.2 = (hideL ps T).take a.1) (fun a => c + 1 - a.1) (0, [])
        case hI => simp
        case hq => simp only; omega
        case ht => simp -implicitDefEqProofs [liveOf, coldOf]
        case round =>
          rintro ⟨i, Q⟩ ⟨hi, hQ⟩ _
          clear hx
          simp only at hi hQ
          have hjl : (hideL ps T).length = c + 1 := by simp [hideL, hp]
          have hQl : Q.length = i := by rw [hQ, List.length_take]; omega
          by_cases hlt : i < c + 1
          · have hlt2 : (i : Int) < (c : Int) + 1 := by omega
            have e2 : addI .i64 (i : Int) 1 = (i : Int) + 1 := addI_i64 (by omega) (by omega)
            have hip : i < ps.length := by omega
            have mp := at_pieces ps i hip
            have h5 : 3 ≤ ps.length * 3 - i * 3 := by omega
            have hs : (hideL ps T).take (i + 1) = Q ++ [hideP (T i) ps[i]] := by
              rw [List.take_succ_eq_append_getElem (by omega), ← hQ]
              simp [hideL, List.getD_eq_getElem?_getD, hip]
            have hbp := bp _ (List.getElem_mem hip)
            have hok := (allOk_iff n ps).1 ap i hip
            generalize ps[i] = p at *
            obtain ⟨hd, z, bs, h⟩ := p
            simp only at mp hbp
            have cp := place_ok n i (by omega) (by omega) (k := k + 1)
            have hTi := hTd i
            obtain ⟨O, cm, hO⟩ := meet_ok [] [⟨(i : Int) * 64, placeL n i⟩] true false (by simp) (by simp) (k := k + 1) (by simp only [List.length_singleton, List.length_nil]; omega)
            rw [← hTi] at hO
            simp [spanE_f] at cm
            have ch := hash_ok bs z (by omega) (k := k + 1) (by omega)
            have cl := clone_ok bs z (by omega) (k := k + 1)
            have cl0 := clone_ok [] true (by simp) (k := k + 1)
            simp at cl0
            cases hQ0 : Q.length with
            | zero =>
              have hnilQ : Q = [] := List.length_eq_zero_iff.1 hQ0
              subst hnilQ
              cases hTv : T i with
              | true =>
                have hOne : O ≠ [] := hO.2 hTv
                obtain ⟨o, hOl⟩ : ∃ o, O.length = o + 1 := ⟨O.length - 1, by have := List.length_pos_iff.2 hOne; omega⟩
                rw [hOl] at cm
                simp at cm
                have hop : (0 : Int) < (o : Int) + 1 := by omega
                cases hd with
                | true =>
                  have hbs : bs = [] := by simpa [pieceOk] using hok
                  subst hbs
                  cases z with
                  | true =>
                    simp at cl mp
                    simp -implicitDefEqProofs [hlt, hlt2, e2, mp, h5, tp, cl]
                    exact rnd_next (i + 1, [] ++ [⟨true, true, [], h⟩]) ⟨by simp only; omega, by simpa [hideP, cloneP, hTv] using hs.symm⟩ (by simp only; omega) (by simp -implicitDefEqProofs [liveOf, coldOf, pieceE_f, tp])
                  | false =>
                    simp at cl mp
                    simp -implicitDefEqProofs [hlt, hlt2, e2, mp, h5, tp, cl]
                    exact rnd_next (i + 1, [] ++ [⟨true, false, [], h⟩]) ⟨by simp only; omega, by simpa [hideP, cloneP, hTv] using hs.symm⟩ (by simp only; omega) (by simp -implicitDefEqProofs [liveOf, coldOf, pieceE_f, tp])
                | false =>
                  simp -implicitDefEqProofs [hlt, hlt2, e2, mp, h5, tp, cp, cm, hop, ch, cl0]
                  exact rnd_next (i + 1, [] ++ [⟨true, true, [], hash bs⟩]) ⟨by simp only; omega, by simpa [hideP, cloneP, hTv] using hs.symm⟩ (by simp only; omega) (by simp -implicitDefEqProofs [liveOf, coldOf, pieceE_f, tp])
              | false =>
                have hOne : O = [] := by
                  refine Classical.byContradiction fun h => ?_
                  rw [hO.1 h] at hTv; cases hTv
                subst hOne
                simp at cm
                cases hd with
                | true =>
                  have hbs : bs = [] := by simpa [pieceOk] using hok
                  subst hbs
                  cases z with
                  | true =>
                    simp at cl mp
                    simp -implicitDefEqProofs [hlt, hlt2, e2, mp, h5, tp, cl]
                    exact rnd_next (i + 1, [] ++ [⟨true, true, [], h⟩]) ⟨by simp only; omega, by simpa [hideP, cloneP, hTv] using hs.symm⟩ (by simp only; omega) (by simp -implicitDefEqProofs [liveOf, coldOf, pieceE_f, tp])
                  | false =>
                    simp at cl mp
                    simp -implicitDefEqProofs [hlt, hlt2, e2, mp, h5, tp, cl]
                    exact rnd_next (i + 1, [] ++ [⟨true, false, [], h⟩]) ⟨by simp only; omega, by simpa [hideP, cloneP, hTv] using hs.symm⟩ (by simp only; omega) (by simp -implicitDefEqProofs [liveOf, coldOf, pieceE_f, tp])
                | false =>
                  cases bs with
                  | nil =>
                    cases z with
                    | true =>
                      simp at cl mp
                      simp -implicitDefEqProofs [hlt, hlt2, e2, mp, h5, tp, cp, cm, cl]
                      exact rnd_next (i + 1, [] ++ [⟨false, true, [], h⟩]) ⟨by simp only; omega, by simpa [hideP, cloneP, hTv] using hs.symm⟩ (by simp only; omega) (by simp -implicitDefEqProofs [liveOf, coldOf, pieceE_f, tp])
                    | false =>
                      simp at cl mp
                      simp -implicitDefEqProofs [hlt, hlt2, e2, mp, h5, tp, cp, cm, cl]
                      exact rnd_next (i + 1, [] ++ [⟨false, false, [], h⟩]) ⟨by simp only; omega, by simpa [hideP, cloneP, hTv] using hs.symm⟩ (by simp only; omega) (by simp -implicitDefEqProofs [liveOf, coldOf, pieceE_f, tp])
                  | cons b bs =>
                    have hrl : roV z (bs.length + 1) (.int .u8 b :: flatE (intE .u8) bs) = .ros (bs.length + 1) (.int .u8 b :: flatE (intE .u8) bs) := roV_pos (by omega)
                    simp at cl mp
                    simp -implicitDefEqProofs [hlt, hlt2, e2, mp, h5, tp, cp, cm, cl]
                    exact rnd_next (i + 1, [] ++ [⟨false, false, b :: bs, h⟩]) ⟨by simp only; omega, by simpa [hideP, cloneP, hTv] using hs.symm⟩ (by simp only; omega) (by simp -implicitDefEqProofs [liveOf, coldOf, pieceE_f, tp])
            | succ r =>
              have hb : (r + 1 + 1) * 40 ≤ 140737488355328 := by omega
              cases hTv : T i with
              | true =>
                have hOne : O ≠ [] := hO.2 hTv
                obtain ⟨o, hOl⟩ : ∃ o, O.length = o + 1 := ⟨O.length - 1, by have := List.length_pos_iff.2 hOne; omega⟩
                rw [hOl] at cm
                simp at cm
                have hop : (0 : Int) < (o : Int) + 1 := by omega
                cases hd with
                | true =>
                  have hbs : bs = [] := by simpa [pieceOk] using hok
                  subst hbs
                  cases z with
                  | true =>
                    simp at cl mp
                    simp -implicitDefEqProofs [hlt, hlt2, e2, mp, h5, tp, cl, hQ0, hb]
                    exact rnd_next (i + 1, Q ++ [⟨true, true, [], h⟩]) ⟨by simp only; omega, by simpa [hideP, cloneP, hTv] using hs.symm⟩ (by simp only; omega) (by simp -implicitDefEqProofs [liveOf, coldOf, pieceE_f, tp, hQ0])
                  | false =>
                    simp at cl mp
                    simp -implicitDefEqProofs [hlt, hlt2, e2, mp, h5, tp, cl, hQ0, hb]
                    exact rnd_next (i + 1, Q ++ [⟨true, false, [], h⟩]) ⟨by simp only; omega, by simpa [hideP, cloneP, hTv] using hs.symm⟩ (by simp only; omega) (by simp -implicitDefEqProofs [liveOf, coldOf, pieceE_f, tp, hQ0])
                | false =>
                  simp -implicitDefEqProofs [hlt, hlt2, e2, mp, h5, tp, cp, cm, hop, ch, cl0, hQ0, hb]
                  exact rnd_next (i + 1, Q ++ [⟨true, true, [], hash bs⟩]) ⟨by simp only; omega, by simpa [hideP, cloneP, hTv] using hs.symm⟩ (by simp only; omega) (by simp -implicitDefEqProofs [liveOf, coldOf, pieceE_f, tp, hQ0])
              | false =>
                have hOne : O = [] := by
                  refine Classical.byContradiction fun h => ?_
                  rw [hO.1 h] at hTv; cases hTv
                subst hOne
                simp at cm
                cases hd with
                | true =>
                  have hbs : bs = [] := by simpa [pieceOk] using hok
                  subst hbs
                  cases z with
                  | true =>
                    simp at cl mp
                    simp -implicitDefEqProofs [hlt, hlt2, e2, mp, h5, tp, cl, hQ0, hb]
                    exact rnd_next (i + 1, Q ++ [⟨true, true, [], h⟩]) ⟨by simp only; omega, by simpa [hideP, cloneP, hTv] using hs.symm⟩ (by simp only; omega) (by simp -implicitDefEqProofs [liveOf, coldOf, pieceE_f, tp, hQ0])
                  | false =>
                    simp at cl mp
                    simp -implicitDefEqProofs [hlt, hlt2, e2, mp, h5, tp, cl, hQ0, hb]
                    exact rnd_next (i + 1, Q ++ [⟨true, false, [], h⟩]) ⟨by simp only; omega, by simpa [hideP, cloneP, hTv] using hs.symm⟩ (by simp only; omega) (by simp -implicitDefEqProofs [liveOf, coldOf, pieceE_f, tp, hQ0])
                | false =>
                  cases bs with
                  | nil =>
                    cases z with
                    | true =>
                      simp at cl mp
                      simp -implicitDefEqProofs [hlt, hlt2, e2, mp, h5, tp, cp, cm, cl, hQ0, hb]
                      exact rnd_next (i + 1, Q ++ [⟨false, true, [], h⟩]) ⟨by simp only; omega, by simpa [hideP, cloneP, hTv] using hs.symm⟩ (by simp only; omega) (by simp -implicitDefEqProofs [liveOf, coldOf, pieceE_f, tp, hQ0])
                    | false =>
                      simp at cl mp
                      simp -implicitDefEqProofs [hlt, hlt2, e2, mp, h5, tp, cp, cm, cl, hQ0, hb]
                      exact rnd_next (i + 1, Q ++ [⟨false, false, [], h⟩]) ⟨by simp only; omega, by simpa [hideP, cloneP, hTv] using hs.symm⟩ (by simp only; omega) (by simp -implicitDefEqProofs [liveOf, coldOf, pieceE_f, tp, hQ0])
                  | cons b bs =>
                    have hrl : roV z (bs.length + 1) (.int .u8 b :: flatE (intE .u8) bs) = .ros (bs.length + 1) (.int .u8 b :: flatE (intE .u8) bs) := roV_pos (by omega)
                    simp at cl mp
                    simp -implicitDefEqProofs [hlt, hlt2, e2, mp, h5, tp, cp, cm, cl, hQ0, hb]
                    exact rnd_next (i + 1, Q ++ [⟨false, false, b :: bs, h⟩]) ⟨by simp only; omega, by simpa [hideP, cloneP, hTv] using hs.symm⟩ (by simp only; omega) (by simp -implicitDefEqProofs [liveOf, coldOf, pieceE_f, tp, hQ0])
          · have hi' : i = c + 1 := by omega
            subst hi'
            have hlt2 : ¬ ((c : Int) + 1 < (c : Int) + 1) := by omega
            rw [List.take_of_length_le (by omega)] at hQ
            rw [← hQ]
            simp -implicitDefEqProofs [hlt2, hQl]
      | succ d =>
        rw [hN0] at cn
        simp at cn
        simp -implicitDefEqProofs [cn]
        generalize hx : evLoopC _ _ _ _ _ _ _ _ _ _ = R0
        apply loop_gen hx (fun a : Nat × List Piece => (mkL 87 .junk [(2, .ptr 1 0), (4, .ptr 2 0), (9, .sl 3 0 (d + 1) 2), (10, .ptr 4 0), (50, .sl 0 0 (c + 1) 3), (51, .int .i64 ((c : Int) + 1)), (52, .int .i64 a.1)],
            [some (.cells (flatE pieceE ps) false), some (.cells [.int .i64 n, .sl 0 0 (c + 1) 3] true), some (.cells [.int .i64 0, .nils] true), some (.cells (flatE spanE N) false), some (.cells [.int .i64 n, ownV true 8 0 a.2.length 3] true), none, none, none, ownB true a.2.length (flatE pieceE a.2)]))
          (fun a => a.1 ≤ c + 1 ∧ a.2 = (hideL ps T).take a.1) (fun a => c + 1 - a.1) (0, [])
        case hI => simp
        case hq => simp only; omega
        case ht => simp -implicitDefEqProofs [liveOf, coldOf]
        case round =>
          rintro ⟨i, Q⟩ ⟨hi, hQ⟩ _
          clear hx
          simp only at hi hQ
          have hjl : (hideL ps T).length = c + 1 := by simp [hideL, hp]
          have hQl : Q.length = i := by rw [hQ, List.length_take]; omega
          by_cases hlt : i < c + 1
          · have hlt2 : (i : Int) < (c : Int) + 1 := by omega
            have e2 : addI .i64 (i : Int) 1 = (i : Int) + 1 := addI_i64 (by omega) (by omega)
            have hip : i < ps.length := by omega
            have mp := at_pieces ps i hip
            have h5 : 3 ≤ ps.length * 3 - i * 3 := by omega
            have hs : (hideL ps T).take (i + 1) = Q ++ [hideP (T i) ps[i]] := by
              rw [List.take_succ_eq_append_getElem (by omega), ← hQ]
              simp [hideL, List.getD_eq_getElem?_getD, hip]
            have hbp := bp _ (List.getElem_mem hip)
            have hok := (allOk_iff n ps).1 ap i hip
            generalize ps[i] = p at *
            obtain ⟨hd, z, bs, h⟩ := p
            simp only at mp hbp
            have cp := place_ok n i (by omega) (by omega) (k := k + 1)
            have hTi := hTd i
            obtain ⟨O, cm, hO⟩ := meet_ok N [⟨(i : Int) * 64, placeL n i⟩] true false (by omega) (by simp) (k := k + 1) (by simp only [List.length_singleton]; omega)
            rw [← hTi] at hO
            rw [hN0] at cm
            have tN : List.take ((d + 1) * 2) (flatE spanE N) = flatE spanE N := by rw [List.take_of_length_le]; simp [hN0]
            simp [spanE_f] at cm
            have ch := hash_ok bs z (by omega) (k := k + 1) (by omega)
            have cl := clone_ok bs z (by omega) (k := k + 1)
            have cl0 := clone_ok [] true (by simp) (k := k + 1)
            simp at cl0
            cases hQ0 : Q.length with
            | zero =>
              have hnilQ : Q = [] := List.length_eq_zero_iff.1 hQ0
              subst hnilQ
              cases hTv : T i with
              | true =>
                have hOne : O ≠ [] := hO.2 hTv
                obtain ⟨o, hOl⟩ : ∃ o, O.length = o + 1 := ⟨O.length - 1, by have := List.length_pos_iff.2 hOne; omega⟩
                rw [hOl] at cm
                simp at cm
                have hop : (0 : Int) < (o : Int) + 1 := by omega
                cases hd with
                | true =>
                  have hbs : bs = [] := by simpa [pieceOk] using hok
                  subst hbs
                  cases z with
                  | true =>
                    simp at cl mp
                    simp -implicitDefEqProofs [hlt, hlt2, e2, mp, h5, tp, cl, tN]
                    exact rnd_next (i + 1, [] ++ [⟨true, true, [], h⟩]) ⟨by simp only; omega, by simpa [hideP, cloneP, hTv] using hs.symm⟩ (by simp only; omega) (by simp -implicitDefEqProofs [liveOf, coldOf, pieceE_f, tp, tN])
                  | false =>
                    simp at cl mp
                    simp -implicitDefEqProofs [hlt, hlt2, e2, mp, h5, tp, cl, tN]
                    exact rnd_next (i + 1, [] ++ [⟨true, false, [], h⟩]) ⟨by simp only; omega, by simpa [hideP, cloneP, hTv] using hs.symm⟩ (by simp only; omega) (by simp -implicitDefEqProofs [liveOf, coldOf, pieceE_f, tp, tN])
                | false =>
                  simp -implicitDefEqProofs [hlt, hlt2, e2, mp, h5, tp, cp, cm, hop, ch, cl0, tN]
                  exact rnd_next (i + 1, [] ++ [⟨true, true, [], hash bs⟩]) ⟨by simp only; omega, by simpa [hideP, cloneP, hTv] using hs.symm⟩ (by simp only; omega) (by simp -implicitDefEqProofs [liveOf, coldOf, pieceE_f, tp, tN])
              | false =>
                have hOne : O = [] := by
                  refine Classical.byContradiction fun h => ?_
                  rw [hO.1 h] at hTv; cases hTv
                subst hOne
                simp at cm
                cases hd with
                | true =>
                  have hbs : bs = [] := by simpa [pieceOk] using hok
                  subst hbs
                  cases z with
                  | true =>
                    simp at cl mp
                    simp -implicitDefEqProofs [hlt, hlt2, e2, mp, h5, tp, cl, tN]
                    exact rnd_next (i + 1, [] ++ [⟨true, true, [], h⟩]) ⟨by simp only; omega, by simpa [hideP, cloneP, hTv] using hs.symm⟩ (by simp only; omega) (by simp -implicitDefEqProofs [liveOf, coldOf, pieceE_f, tp, tN])
                  | false =>
                    simp at cl mp
                    simp -implicitDefEqProofs [hlt, hlt2, e2, mp, h5, tp, cl, tN]
                    exact rnd_next (i + 1, [] ++ [⟨true, false, [], h⟩]) ⟨by simp only; omega, by simpa [hideP, cloneP, hTv] using hs.symm⟩ (by simp only; omega) (by simp -implicitDefEqProofs [liveOf, coldOf, pieceE_f, tp, tN])
                | false =>
                  cases bs with
                  | nil =>
                    cases z with
                    | true =>
                      simp at cl mp
                      simp -implicitDefEqProofs [hlt, hlt2, e2, mp, h5, tp, cp, cm, cl, tN]
                      exact rnd_next (i + 1, [] ++ [⟨false, true, [], h⟩]) ⟨by simp only; omega, by simpa [hideP, cloneP, hTv] using hs.symm⟩ (by simp only; omega) (by simp -implicitDefEqProofs [liveOf, coldOf, pieceE_f, tp, tN])
                    | false =>
                      simp at cl mp
                      simp -implicitDefEqProofs [hlt, hlt2, e2, mp, h5, tp, cp, cm, cl, tN]
                      exact rnd_next (i + 1, [] ++ [⟨false, false, [], h⟩]) ⟨by simp only; omega, by simpa [hideP, cloneP, hTv] using hs.symm⟩ (by simp only; omega) (by simp -implicitDefEqProofs [liveOf, coldOf, pieceE_f, tp, tN])
                  | cons b bs =>
                    have hrl : roV z (bs.length + 1) (.int .u8 b :: flatE (intE .u8) bs) = .ros (bs.length + 1) (.int .u8 b :: flatE (intE .u8) bs) := roV_pos (by omega)
                    simp at cl mp
                    simp -implicitDefEqProofs [hlt, hlt2, e2, mp, h5, tp, cp, cm, cl, tN]
                    exact rnd_next (i + 1, [] ++ [⟨false, false, b :: bs, h⟩]) ⟨by simp only; omega, by simpa [hideP, cloneP, hTv] using hs.symm⟩ (by simp only; omega) (by simp -implicitDefEqProofs [liveOf, coldOf, pieceE_f, tp, tN])
            | succ r =>
              have hb : (r + 1 + 1) * 40 ≤ 140737488355328 := by omega
              cases hTv : T i with
              | true =>
                have hOne : O ≠ [] := hO.2 hTv
                obtain ⟨o, hOl⟩ : ∃ o, O.length = o + 1 := ⟨O.length - 1, by have := List.length_pos_iff.2 hOne; omega⟩
                rw [hOl] at cm
                simp at cm
                have hop : (0 : Int) < (o : Int) + 1 := by omega
                cases hd with
                | true =>
                  have hbs : bs = [] := by simpa [pieceOk] using hok
                  subst hbs
                  cases z with
                  | true =>
                    simp at cl mp
                    simp -implicitDefEqProofs [hlt, hlt2, e2, mp, h5, tp, cl, hQ0, hb, tN]
                    exact rnd_next (i + 1, Q ++ [⟨true, true, [], h⟩]) ⟨by simp only; omega, by simpa [hideP, cloneP, hTv] using hs.symm⟩ (by simp only; omega) (by simp -implicitDefEqProofs [liveOf, coldOf, pieceE_f, tp, hQ0, tN])
                  | false =>
                    simp at cl mp
                    simp -implicitDefEqProofs [hlt, hlt2, e2, mp, h5, tp, cl, hQ0, hb, tN]
                    exact rnd_next (i + 1, Q ++ [⟨true, false, [], h⟩]) ⟨by simp only; omega, by simpa [hideP, cloneP, hTv] using hs.symm⟩ (by simp only; omega) (by simp -implicitDefEqProofs [liveOf, coldOf, pieceE_f, tp, hQ0, tN])
                | false =>
                  simp -implicitDefEqProofs [hlt, hlt2, e2, mp, h5, tp, cp, cm, hop, ch, cl0, hQ0, hb, tN]
                  exact rnd_next (i + 1, Q ++ [⟨true, true, [], hash bs⟩]) ⟨by simp only; omega, by simpa [hideP, cloneP, hTv] using hs.symm⟩ (by simp only; omega) (by simp -implicitDefEqProofs [liveOf, coldOf, pieceE_f, tp, hQ0, tN])
              | false =>
                have hOne : O = [] := by
                  refine Classical.byContradiction fun h => ?_
                  rw [hO.1 h] at hTv; cases hTv
                subst hOne
                simp at cm
                cases hd with
                | true =>
                  have hbs : bs = [] := by simpa [pieceOk] using hok
                  subst hbs
                  cases z with
                  | true =>
                    simp at cl mp
                    simp -implicitDefEqProofs [hlt, hlt2, e2, mp, h5, tp, cl, hQ0, hb, tN]
                    exact rnd_next (i + 1, Q ++ [⟨true, true, [], h⟩]) ⟨by simp only; omega, by simpa [hideP, cloneP, hTv] using hs.symm⟩ (by simp only; omega) (by simp -implicitDefEqProofs [liveOf, coldOf, pieceE_f, tp, hQ0, tN])
                  | false =>
                    simp at cl mp
                    simp -implicitDefEqProofs [hlt, hlt2, e2, mp, h5, tp, cl, hQ0, hb, tN]
                    exact rnd_next (i + 1, Q ++ [⟨true, false, [], h⟩]) ⟨by simp only; omega, by simpa [hideP, cloneP, hTv] using hs.symm⟩ (by simp only; omega) (by simp -implicitDefEqProofs [liveOf, coldOf, pieceE_f, tp, hQ0, tN])
                | false =>
                  cases bs with
                  | nil =>
                    cases z with
                    | true =>
                      simp at cl mp
                      simp -implicitDefEqProofs [hlt, hlt2, e2, mp, h5, tp, cp, cm, cl, hQ0, hb, tN]
                      exact rnd_next (i + 1, Q ++ [⟨false, true, [], h⟩]) ⟨by simp only; omega, by simpa [hideP, cloneP, hTv] using hs.symm⟩ (by simp only; omega) (by simp -implicitDefEqProofs [liveOf, coldOf, pieceE_f, tp, hQ0, tN])
                    | false =>
                      simp at cl mp
                      simp -implicitDefEqProofs [hlt, hlt2, e2, mp, h5, tp, cp, cm, cl, hQ0, hb, tN]
                      exact rnd_next (i + 1, Q ++ [⟨false, false, [], h⟩]) ⟨by simp only; omega, by simpa [hideP, cloneP, hTv] using hs.symm⟩ (by simp only; omega) (by simp -implicitDefEqProofs [liveOf, coldOf, pieceE_f, tp, hQ0, tN])
                  | cons b bs =>
                    have hrl : roV z (bs.length + 1) (.int .u8 b :: flatE (intE .u8) bs) = .ros (bs.length + 1) (.int .u8 b :: flatE (intE .u8) bs) := roV_pos (by omega)
                    simp at cl mp
                    simp -implicitDefEqProofs [hlt, hlt2, e2, mp, h5, tp, cp, cm, cl, hQ0, hb, tN]
                    exact rnd_next (i + 1, Q ++ [⟨false, false, b :: bs, h⟩]) ⟨by simp only; omega, by simpa [hideP, cloneP, hTv] using hs.symm⟩ (by simp only; omega) (by simp -implicitDefEqProofs [liveOf, coldOf, pieceE_f, tp, hQ0, tN])
          · have hi' : i = c + 1 := by omega
            subst hi'
            have hlt2 : ¬ ((c : Int) + 1 < (c : Int) + 1) := by omega
            rw [List.take_of_length_le (by omega)] at hQ
            rw [← hQ]
            simp -implicitDefEqProofs [hlt2, hQl]

theorem hide_gt (n : Nat) (ps : List Piece) (c : Nat) (l R : List Span) (hn : n ≤ 65536) (hc : blocksN n = c + 1) (hp : ps.length = c + 1) (ap : allOk n ps = true) (hl : l.length ≤ 4096) (hw : Within n l) {k : Nat} (hk : 200000 < k) :
    evF Try.prog Γ (k + 1) 24 [.agg [.int .i64 n, .sl 0 0 (c + 1) 3], .sl 1 0 l.length 2] [some (.cells (flatE pieceE ps) false), some (.cells (flatE spanE (l ++ R)) true)] = some (.tup [.agg [.int .i64 n, .sl 2 0 (c + 1) 3], .int .i64 0], [some (.cells (flatE pieceE ps) false), some (.cells (flatE spanE (l ++ R)) true), some (.cells (flatE pieceE (hideL ps (touched l n))) false)]) := by
  obtain ⟨k, rfl⟩ : ∃ j, k = j + 2 := ⟨k - 2, by omega⟩
  have hB : blocksN n ≤ 1024 := by unfold blocksN; omega
  have bp := allOk_len ap
  have tp : List.take ((c + 1) * 3) (flatE pieceE ps) = flatE pieceE ps := by rw [List.take_of_length_le]; simp [hp]
  have cc := exCheck_ok n ps false (fun p hp => by have := bp p hp; omega) (by omega) (k := k + 1) (by omega)
  have hcr : checkR n ps = 0 := by
    unfold checkR
    rw [if_neg (by omega), if_pos ⟨by simp; omega, by simpa using ap⟩]
  rw [hcr, hp] at cc
  simp only [roV_false] at cc
  have cn := norm_ok l false (by omega) (k := k + 1) (by omega)
  simp at cn
  have nf := norm_facts l
  have hcm : ∀ p, common (normL l) [p] ↔ common l [p] := fun p => by unfold common; simp only [nf.2.2]
  have hTd : ∀ i, touched l n i = true ↔ common (normL l) [⟨(i : Int) * 64, placeL n i⟩] := fun i => by rw [hcm]; exact touched_iff _ _ _
  have hNl : (normL l).length ≤ 4096 := Nat.le_trans nf.2.1 (by omega)
  clear nf hcm
  generalize touched l n = T at *
  generalize normL l = N at *
  have h00 : ¬ 4096 < 0 := by omega
  have tl : List.take (l.length * 2) (flatE spanE l ++ flatE spanE R) = flatE spanE l := by rw [List.take_append_of_le_length (by simp), List.take_of_length_le (by simp)]
  have hcl : ¬ (4096 : Int) < l.length := by omega
  have hcl2 : ¬ 4096 < l.length := by omega
  rw [b24 (fun _ _ => rfl) _ _ (by simp)]
  simp -implicitDefEqProofs [cc, tp, tl, hcl, hcl2]
  generalize hx : evLoopC _ _ _ _ _ _ _ _ _ _ = R0
  apply loop_gen hx (fun i : Nat => (mkL 87 .junk [(1, .sl 1 0 l.length 2), (2, .ptr 3 0), (4, .ptr 4 0), (23, .sl 1 0 l.length 2), (24, .int .i64 l.length), (25, .int .i64 i)],
      [some (.cells (flatE pieceE ps) false), some (.cells (flatE spanE l ++ flatE spanE R) true), none, some (.cells [.int .i64 n, .sl 0 0 (c + 1) 3] true), some (.cells [.int .i64 0, .nils] true), none, none, none])) (fun i => i ≤ l.length) (fun i => l.length - i) 0
  case hI => simp
  case hq => omega
  case ht => simp -implicitDefEqProofs [liveOf, coldOf]
  case round =>
    rintro i hi _
    clear hx
    by_cases hlt : i < l.length
    · have hlt2 : (i : Int) < l.length := by omega
      have e2 : addI .i64 (i : Int) 1 = (i : Int) + 1 := addI_i64 (by omega) (by omega)
      have ms := at_spans (l ++ R) i (by simp; omega)
      rw [flatE_append, List.getElem_append_left hlt] at ms
      have hin := hw _ (List.getElem_mem hlt)
      have ck := check_ok l[i] (k := k + 1)
      generalize l[i] = s at *
      have hok : s.ok := ⟨hin.1, hin.2.1, by omega, by omega⟩
      rw [if_pos hok] at ck
      have h3 : 2 ≤ l.length * 2 + R.length * 2 - i * 2 := by omega
      have e3 : addI .i64 s.off s.len = s.off + s.len := addI_i64 (by omega) (by omega)
      have hle : ¬ (n : Int) < s.off + s.len := by omega
      simp -implicitDefEqProofs [hlt, hlt2, e2, e3, ms, ck, h3, hle]
      exact rnd_next (i + 1) hlt (by omega) (by simp -implicitDefEqProofs [liveOf, coldOf])
    · have hi' : i = l.length := by omega
      subst hi'
      cases hN0 : N.length with
      | zero =>
        have hnil : N = [] := List.length_eq_zero_iff.1 hN0
        subst hnil
        simp at cn
        simp -implicitDefEqProofs [cn, tl, hcl, hcl2]
        generalize hx : evLoopC _ _ _ _ _ _ _ _ _ _ = R0
        apply loop_gen hx (fun a : Nat × List Piece => (mkL 87 .junk [(2, .ptr 2 0), (4, .ptr 3 0), (9, .nils), (10, .ptr 5 0), (50, .sl 0 0 (c + 1) 3), (51, .int .i64 ((c : Int) + 1)), (52, .int .i64 a.1)],
            [some (.cells (flatE pieceE ps) false), some (.cells (flatE spanE l ++ flatE spanE R) true), some (.cells [.int .i64 n, .sl 0 0 (c + 1) 3] true), some (.cells [.int .i64 0, .nils] true), none, some (.cells [.int .i64 n, ownV true 9 0 a.2.length 3] true), none, none, none, ownB true a.2.length (flatE pieceE a.2)]))
          (fun a => a.1 ≤ c + 1 ∧ a.2 = (hideL ps T).take a.1) (fun a => c + 1 - a.1) (0, [])
        case hI => simp
        case hq => simp only; omega
        case ht => simp -implicitDefEqProofs [liveOf, coldOf]
        case round =>
          rintro ⟨i, Q⟩ ⟨hi, hQ⟩ _
          clear hx
          simp only at hi hQ
          have hjl : (hideL ps T).length = c + 1 := by simp [hideL, hp]
          have hQl : Q.length = i := by rw [hQ, List.length_take]; omega
          by_cases hlt : i < c + 1
          · have hlt2 : (i : Int) < (c : Int) + 1 := by omega
            have e2 : addI .i64 (i : Int) 1 = (i : Int) + 1 := addI_i64 (by omega) (by omega)
            have hip : i < ps.length := by omega
            have mp := at_pieces ps i hip
            have h5 : 3 ≤ ps.length * 3 - i * 3 := by omega
            have hs : (hideL ps T).take (i + 1) = Q ++ [hideP (T i) ps[i]] := by
              rw [List.take_succ_eq_append_getElem (by omega), ← hQ]
              simp [hideL, List.getD_eq_getElem?_getD, hip]
            have hbp := bp _ (List.getElem_mem hip)
            have hok := (allOk_iff n ps).1 ap i hip
            generalize ps[i] = p at *
            obtain ⟨hd, z, bs, h⟩ := p
            simp only at mp hbp
            have cp := place_ok n i (by omega) (by omega) (k := k + 1)
            have hTi := hTd i
            obtain ⟨O, cm, hO⟩ := meet_ok [] [⟨(i : Int) * 64, placeL n i⟩] true false (by simp) (by simp) (k := k + 1) (by simp only [List.length_singleton, List.length_nil]; omega)
            rw [← hTi] at hO
            simp [spanE_f] at cm
            have ch := hash_ok bs z (by omega) (k := k + 1) (by omega)
            have cl := clone_ok bs z (by omega) (k := k + 1)
            have cl0 := clone_ok [] true (by simp) (k := k + 1)
            simp at cl0
            cases hQ0 : Q.length with
            | zero =>
              have hnilQ : Q = [] := List.length_eq_zero_iff.1 hQ0
              subst hnilQ
              cases hTv : T i with
              | true =>
                have hOne : O ≠ [] := hO.2 hTv
                obtain ⟨o, hOl⟩ : ∃ o, O.length = o + 1 := ⟨O.length - 1, by have := List.length_pos_iff.2 hOne; omega⟩
                rw [hOl] at cm
                simp at cm
                have hop : (0 : Int) < (o : Int) + 1 := by omega
                cases hd with
                | true =>
                  have hbs : bs = [] := by simpa [pieceOk] using hok
                  subst hbs
                  cases z with
                  | true =>
                    simp at cl mp
                    simp -implicitDefEqProofs [hlt, hlt2, e2, mp, h5, tp, cl]
                    exact rnd_next (i + 1, [] ++ [⟨true, true, [], h⟩]) ⟨by simp only; omega, by simpa [hideP, cloneP, hTv] using hs.symm⟩ (by simp only; omega) (by simp -implicitDefEqProofs [liveOf, coldOf, pieceE_f, tp])
                  | false =>
                    simp at cl mp
                    simp -implicitDefEqProofs [hlt, hlt2, e2, mp, h5, tp, cl]
                    exact rnd_next (i + 1, [] ++ [⟨true, false, [], h⟩]) ⟨by simp only; omega, by simpa [hideP, cloneP, hTv] using hs.symm⟩ (by simp only; omega) (by simp -implicitDefEqProofs [liveOf, coldOf, pieceE_f, tp])
                | false =>
                  simp -implicitDefEqProofs [hlt, hlt2, e2, mp, h5, tp, cp, cm, hop, ch, cl0]
                  exact rnd_next (i + 1, [] ++ [⟨true, true, [], hash bs⟩]) ⟨by simp only; omega, by simpa [hideP, cloneP, hTv] using hs.symm⟩ (by simp only; omega) (by simp -implicitDefEqProofs [liveOf, coldOf, pieceE_f, tp])
              | false =>
                have hOne : O = [] := by
                  refine Classical.byContradiction fun h => ?_
                  rw [hO.1 h] at hTv; cases hTv
                subst hOne
                simp at cm
                cases hd with
                | true =>
                  have hbs : bs = [] := by simpa [pieceOk] using hok
                  subst hbs
                  cases z with
                  | true =>
                    simp at cl mp
                    simp -implicitDefEqProofs [hlt, hlt2, e2, mp, h5, tp, cl]
                    exact rnd_next (i + 1, [] ++ [⟨true, true, [], h⟩]) ⟨by simp only; omega, by simpa [hideP, cloneP, hTv] using hs.symm⟩ (by simp only; omega) (by simp -implicitDefEqProofs [liveOf, coldOf, pieceE_f, tp])
                  | false =>
                    simp at cl mp
                    simp -implicitDefEqProofs [hlt, hlt2, e2, mp, h5, tp, cl]
                    exact rnd_next (i + 1, [] ++ [⟨true, false, [], h⟩]) ⟨by simp only; omega, by simpa [hideP, cloneP, hTv] using hs.symm⟩ (by simp only; omega) (by simp -implicitDefEqProofs [liveOf, coldOf, pieceE_f, tp])
                | false =>
                  cases bs with
                  | nil =>
                    cases z with
                    | true =>
                      simp at cl mp
                      simp -implicitDefEqProofs [hlt, hlt2, e2, mp, h5, tp, cp, cm, cl]
                      exact rnd_next (i + 1, [] ++ [⟨false, true, [], h⟩]) ⟨by simp only; omega, by simpa [hideP, cloneP, hTv] using hs.symm⟩ (by simp only; omega) (by simp -implicitDefEqProofs [liveOf, coldOf, pieceE_f, tp])
                    | false =>
                      simp at cl mp
                      simp -implicitDefEqProofs [hlt, hlt2, e2, mp, h5, tp, cp, cm, cl]
                      exact rnd_next (i + 1, [] ++ [⟨false, false, [], h⟩]) ⟨by simp only; omega, by simpa [hideP, cloneP, hTv] using hs.symm⟩ (by simp only; omega) (by simp -implicitDefEqProofs [liveOf, coldOf, pieceE_f, tp])
                  | cons b bs =>
                    have hrl : roV z (bs.length + 1) (.int .u8 b :: flatE (intE .u8) bs) = .ros (bs.length + 1) (.int .u8 b :: flatE (intE .u8) bs) := roV_pos (by omega)
                    simp at cl mp
                    simp -implicitDefEqProofs [hlt, hlt2, e2, mp, h5, tp, cp, cm, cl]
                    exact rnd_next (i + 1, [] ++ [⟨false, false, b :: bs, h⟩]) ⟨by simp only; omega, by simpa [hideP, cloneP, hTv] using hs.symm⟩ (by simp only; omega) (by simp -implicitDefEqProofs [liveOf, coldOf, pieceE_f, tp])
            | succ r =>
              have hb : (r + 1 + 1) * 40 ≤ 140737488355328 := by omega
              cases hTv : T i with
              | true =>
                have hOne : O ≠ [] := hO.2 hTv
                obtain ⟨o, hOl⟩ : ∃ o, O.length = o + 1 := ⟨O.length - 1, by have := List.length_pos_iff.2 hOne; omega⟩
                rw [hOl] at cm
                simp at cm
                have hop : (0 : Int) < (o : Int) + 1 := by omega
                cases hd with
                | true =>
                  have hbs : bs = [] := by simpa [pieceOk] using hok
                  subst hbs
                  cases z with
                  | true =>
                    simp at cl mp
                    simp -implicitDefEqProofs [hlt, hlt2, e2, mp, h5, tp, cl, hQ0, hb]
                    exact rnd_next (i + 1, Q ++ [⟨true, true, [], h⟩]) ⟨by simp only; omega, by simpa [hideP, cloneP, hTv] using hs.symm⟩ (by simp only; omega) (by simp -implicitDefEqProofs [liveOf, coldOf, pieceE_f, tp, hQ0])
                  | false =>
                    simp at cl mp
                    simp -implicitDefEqProofs [hlt, hlt2, e2, mp, h5, tp, cl, hQ0, hb]
                    exact rnd_next (i + 1, Q ++ [⟨true, false, [], h⟩]) ⟨by simp only; omega, by simpa [hideP, cloneP, hTv] using hs.symm⟩ (by simp only; omega) (by simp -implicitDefEqProofs [liveOf, coldOf, pieceE_f, tp, hQ0])
                | false =>
                  simp -implicitDefEqProofs [hlt, hlt2, e2, mp, h5, tp, cp, cm, hop, ch, cl0, hQ0, hb]
                  exact rnd_next (i + 1, Q ++ [⟨true, true, [], hash bs⟩]) ⟨by simp only; omega, by simpa [hideP, cloneP, hTv] using hs.symm⟩ (by simp only; omega) (by simp -implicitDefEqProofs [liveOf, coldOf, pieceE_f, tp, hQ0])
              | false =>
                have hOne : O = [] := by
                  refine Classical.byContradiction fun h => ?_
                  rw [hO.1 h] at hTv; cases hTv
                subst hOne
                simp at cm
                cases hd with
                | true =>
                  have hbs : bs = [] := by simpa [pieceOk] using hok
                  subst hbs
                  cases z with
                  | true =>
                    simp at cl mp
                    simp -implicitDefEqProofs [hlt, hlt2, e2, mp, h5, tp, cl, hQ0, hb]
                    exact rnd_next (i + 1, Q ++ [⟨true, true, [], h⟩]) ⟨by simp only; omega, by simpa [hideP, cloneP, hTv] using hs.symm⟩ (by simp only; omega) (by simp -implicitDefEqProofs [liveOf, coldOf, pieceE_f, tp, hQ0])
                  | false =>
                    simp at cl mp
                    simp -implicitDefEqProofs [hlt, hlt2, e2, mp, h5, tp, cl, hQ0, hb]
                    exact rnd_next (i + 1, Q ++ [⟨true, false, [], h⟩]) ⟨by simp only; omega, by simpa [hideP, cloneP, hTv] using hs.symm⟩ (by simp only; omega) (by simp -implicitDefEqProofs [liveOf, coldOf, pieceE_f, tp, hQ0])
                | false =>
                  cases bs with
                  | nil =>
                    cases z with
                    | true =>
                      simp at cl mp
                      simp -implicitDefEqProofs [hlt, hlt2, e2, mp, h5, tp, cp, cm, cl, hQ0, hb]
                      exact rnd_next (i + 1, Q ++ [⟨false, true, [], h⟩]) ⟨by simp only; omega, by simpa [hideP, cloneP, hTv] using hs.symm⟩ (by simp only; omega) (by simp -implicitDefEqProofs [liveOf, coldOf, pieceE_f, tp, hQ0])
                    | false =>
                      simp at cl mp
                      simp -implicitDefEqProofs [hlt, hlt2, e2, mp, h5, tp, cp, cm, cl, hQ0, hb]
                      exact rnd_next (i + 1, Q ++ [⟨false, false, [], h⟩]) ⟨by simp only; omega, by simpa [hideP, cloneP, hTv] using hs.symm⟩ (by simp only; omega) (by simp -implicitDefEqProofs [liveOf, coldOf, pieceE_f, tp, hQ0])
                  | cons b bs =>
                    have hrl : roV z (bs.length + 1) (.int .u8 b :: flatE (intE .u8) bs) = .ros (bs.length + 1) (.int .u8 b :: flatE (intE .u8) bs) := roV_pos (by omega)
                    simp at cl mp
                    simp -implicitDefEqProofs [hlt, hlt2, e2, mp, h5, tp, cp, cm, cl, hQ0, hb]
                    exact rnd_next (i + 1, Q ++ [⟨false, false, b :: bs, h⟩]) ⟨by simp only; omega, by simpa [hideP, cloneP, hTv] using hs.symm⟩ (by simp only; omega) (by simp -implicitDefEqProofs [liveOf, coldOf, pieceE_f, tp, hQ0])
          · have hi' : i = c + 1 := by omega
            subst hi'
            have hlt2 : ¬ ((c : Int) + 1 < (c : Int) + 1) := by omega
            rw [List.take_of_length_le (by omega)] at hQ
            rw [← hQ]
            simp -implicitDefEqProofs [hlt2, hQl]
      | succ d =>
        rw [hN0] at cn
        simp at cn
        simp -implicitDefEqProofs [cn, tl, hcl, hcl2]
        generalize hx : evLoopC _ _ _ _ _ _ _ _ _ _ = R0
        apply loop_gen hx (fun a : Nat × List Piece => (mkL 87 .junk [(2, .ptr 2 0), (4, .ptr 3 0), (9, .sl 4 0 (d + 1) 2), (10, .ptr 5 0), (50, .sl 0 0 (c + 1) 3), (51, .int .i64 ((c : Int) + 1)), (52, .int .i64 a.1)],
            [some (.cells (flatE pieceE ps) false), some (.cells (flatE spanE l ++ flatE spanE R) true), some (.cells [.int .i64 n, .sl 0 0 (c + 1) 3] true), some (.cells [.int .i64 0, .nils] true), some (.cells (flatE spanE N) false), some (.cells [.int .i64 n, ownV true 9 0 a.2.length 3] true), none, none, none, ownB true a.2.length (flatE pieceE a.2)]))
          (fun a => a.1 ≤ c + 1 ∧ a.2 = (hideL ps T).take a.1) (fun a => c + 1 - a.1) (0, [])
        case hI => simp
        case hq => simp only; omega
        case ht => simp -implicitDefEqProofs [liveOf, coldOf]
        case round =>
          rintro ⟨i, Q⟩ ⟨hi, hQ⟩ _
          clear hx
          simp only at hi hQ
          have hjl : (hideL ps T).length = c + 1 := by simp [hideL, hp]
          have hQl : Q.length = i := by rw [hQ, List.length_take]; omega
          by_cases hlt : i < c + 1
          · have hlt2 : (i : Int) < (c : Int) + 1 := by omega
            have e2 : addI .i64 (i : Int) 1 = (i : Int) + 1 := addI_i64 (by omega) (by omega)
            have hip : i < ps.length := by omega
            have mp := at_pieces ps i hip
            have h5 : 3 ≤ ps.length * 3 - i * 3 := by omega
            have hs : (hideL ps T).take (i + 1) = Q ++ [hideP (T i) ps[i]] := by
              rw [List.take_succ_eq_append_getElem (by omega), ← hQ]
              simp [hideL, List.getD_eq_getElem?_getD, hip]
            have hbp := bp _ (List.getElem_mem hip)
            have hok := (allOk_iff n ps).1 ap i hip
            generalize ps[i] = p at *
            obtain ⟨hd, z, bs, h⟩ := p
            simp only at mp hbp
            have cp := place_ok n i (by omega) (by omega) (k := k + 1)
            have hTi := hTd i
            obtain ⟨O, cm, hO⟩ := meet_ok N [⟨(i : Int) * 64, placeL n i⟩] true false (by omega) (by simp) (k := k + 1) (by simp only [List.length_singleton]; omega)
            rw [← hTi] at hO
            rw [hN0] at cm
            have tN : List.take ((d + 1) * 2) (flatE spanE N) = flatE spanE N := by rw [List.take_of_length_le]; simp [hN0]
            simp [spanE_f] at cm
            have ch := hash_ok bs z (by omega) (k := k + 1) (by omega)
            have cl := clone_ok bs z (by omega) (k := k + 1)
            have cl0 := clone_ok [] true (by simp) (k := k + 1)
            simp at cl0
            cases hQ0 : Q.length with
            | zero =>
              have hnilQ : Q = [] := List.length_eq_zero_iff.1 hQ0
              subst hnilQ
              cases hTv : T i with
              | true =>
                have hOne : O ≠ [] := hO.2 hTv
                obtain ⟨o, hOl⟩ : ∃ o, O.length = o + 1 := ⟨O.length - 1, by have := List.length_pos_iff.2 hOne; omega⟩
                rw [hOl] at cm
                simp at cm
                have hop : (0 : Int) < (o : Int) + 1 := by omega
                cases hd with
                | true =>
                  have hbs : bs = [] := by simpa [pieceOk] using hok
                  subst hbs
                  cases z with
                  | true =>
                    simp at cl mp
                    simp -implicitDefEqProofs [hlt, hlt2, e2, mp, h5, tp, cl, tN]
                    exact rnd_next (i + 1, [] ++ [⟨true, true, [], h⟩]) ⟨by simp only; omega, by simpa [hideP, cloneP, hTv] using hs.symm⟩ (by simp only; omega) (by simp -implicitDefEqProofs [liveOf, coldOf, pieceE_f, tp, tN])
                  | false =>
                    simp at cl mp
                    simp -implicitDefEqProofs [hlt, hlt2, e2, mp, h5, tp, cl, tN]
                    exact rnd_next (i + 1, [] ++ [⟨true, false, [], h⟩]) ⟨by simp only; omega, by simpa [hideP, cloneP, hTv] using hs.symm⟩ (by simp only; omega) (by simp -implicitDefEqProofs [liveOf, coldOf, pieceE_f, tp, tN])
                | false =>
                  simp -implicitDefEqProofs [hlt, hlt2, e2, mp, h5, tp, cp, cm, hop, ch, cl0, tN]
                  exact rnd_next (i + 1, [] ++ [⟨true, true, [], hash bs⟩]) ⟨by simp only; omega, by simpa [hideP, cloneP, hTv] using hs.symm⟩ (by simp only; omega) (by simp -implicitDefEqProofs [liveOf, coldOf, pieceE_f, tp, tN])
              | false =>
                have hOne : O = [] := by
                  refine Classical.byContradiction fun h => ?_
                  rw [hO.1 h] at hTv; cases hTv
                subst hOne
                simp at cm
                cases hd with
                | true =>
                  have hbs : bs = [] := by simpa [pieceOk] using hok
                  subst hbs
                  cases z with
                  | true =>
                    simp at cl mp
                    simp -implicitDefEqProofs [hlt, hlt2, e2, mp, h5, tp, cl, tN]
                    exact rnd_next (i + 1, [] ++ [⟨true, true, [], h⟩]) ⟨by simp only; omega, by simpa [hideP, cloneP, hTv] using hs.symm⟩ (by simp only; omega) (by simp -implicitDefEqProofs [liveOf, coldOf, pieceE_f, tp, tN])
                  | false =>
                    simp at cl mp
                    simp -implicitDefEqProofs [hlt, hlt2, e2, mp, h5, tp, cl, tN]
                    exact rnd_next (i + 1, [] ++ [⟨true, false, [], h⟩]) ⟨by simp only; omega, by simpa [hideP, cloneP, hTv] using hs.symm⟩ (by simp only; omega) (by simp -implicitDefEqProofs [liveOf, coldOf, pieceE_f, tp, tN])
                | false =>
                  cases bs with
                  | nil =>
                    cases z with
                    | true =>
                      simp at cl mp
                      simp -implicitDefEqProofs [hlt, hlt2, e2, mp, h5, tp, cp, cm, cl, tN]
                      exact rnd_next (i + 1, [] ++ [⟨false, true, [], h⟩]) ⟨by simp only; omega, by simpa [hideP, cloneP, hTv] using hs.symm⟩ (by simp only; omega) (by simp -implicitDefEqProofs [liveOf, coldOf, pieceE_f, tp, tN])
                    | false =>
                      simp at cl mp
                      simp -implicitDefEqProofs [hlt, hlt2, e2, mp, h5, tp, cp, cm, cl, tN]
                      exact rnd_next (i + 1, [] ++ [⟨false, false, [], h⟩]) ⟨by simp only; omega, by simpa [hideP, cloneP, hTv] using hs.symm⟩ (by simp only; omega) (by simp -implicitDefEqProofs [liveOf, coldOf, pieceE_f, tp, tN])
                  | cons b bs =>
                    have hrl : roV z (bs.length + 1) (.int .u8 b :: flatE (intE .u8) bs) = .ros (bs.length + 1) (.int .u8 b :: flatE (intE .u8) bs) := roV_pos (by omega)
                    simp at cl mp
                    simp -implicitDefEqProofs [hlt, hlt2, e2, mp, h5, tp, cp, cm, cl, tN]
                    exact rnd_next (i + 1, [] ++ [⟨false, false, b :: bs, h⟩]) ⟨by simp only; omega, by simpa [hideP, cloneP, hTv] using hs.symm⟩ (by simp only; omega) (by simp -implicitDefEqProofs [liveOf, coldOf, pieceE_f, tp, tN])
            | succ r =>
              have hb : (r + 1 + 1) * 40 ≤ 140737488355328 := by omega
              cases hTv : T i with
              | true =>
                have hOne : O ≠ [] := hO.2 hTv
                obtain ⟨o, hOl⟩ : ∃ o, O.length = o + 1 := ⟨O.length - 1, by have := List.length_pos_iff.2 hOne; omega⟩
                rw [hOl] at cm
                simp at cm
                have hop : (0 : Int) < (o : Int) + 1 := by omega
                cases hd with
                | true =>
                  have hbs : bs = [] := by simpa [pieceOk] using hok
                  subst hbs
                  cases z with
                  | true =>
                    simp at cl mp
                    simp -implicitDefEqProofs [hlt, hlt2, e2, mp, h5, tp, cl, hQ0, hb, tN]
                    exact rnd_next (i + 1, Q ++ [⟨true, true, [], h⟩]) ⟨by simp only; omega, by simpa [hideP, cloneP, hTv] using hs.symm⟩ (by simp only; omega) (by simp -implicitDefEqProofs [liveOf, coldOf, pieceE_f, tp, hQ0, tN])
                  | false =>
                    simp at cl mp
                    simp -implicitDefEqProofs [hlt, hlt2, e2, mp, h5, tp, cl, hQ0, hb, tN]
                    exact rnd_next (i + 1, Q ++ [⟨true, false, [], h⟩]) ⟨by simp only; omega, by simpa [hideP, cloneP, hTv] using hs.symm⟩ (by simp only; omega) (by simp -implicitDefEqProofs [liveOf, coldOf, pieceE_f, tp, hQ0, tN])
                | false =>
                  simp -implicitDefEqProofs [hlt, hlt2, e2, mp, h5, tp, cp, cm, hop, ch, cl0, hQ0, hb, tN]
                  exact rnd_next (i + 1, Q ++ [⟨true, true, [], hash bs⟩]) ⟨by simp only; omega, by simpa [hideP, cloneP, hTv] using hs.symm⟩ (by simp only; omega) (by simp -implicitDefEqProofs [liveOf, coldOf, pieceE_f, tp, hQ0, tN])
              | false =>
                have hOne : O = [] := by
                  refine Classical.byContradiction fun h => ?_
                  rw [hO.1 h] at hTv; cases hTv
                subst hOne
                simp at cm
                cases hd with
                | true =>
                  have hbs : bs = [] := by simpa [pieceOk] using hok
                  subst hbs
                  cases z with
                  | true =>
                    simp at cl mp
                    simp -implicitDefEqProofs [hlt, hlt2, e2, mp, h5, tp, cl, hQ0, hb, tN]
                    exact rnd_next (i + 1, Q ++ [⟨true, true, [], h⟩]) ⟨by simp only; omega, by simpa [hideP, cloneP, hTv] using hs.symm⟩ (by simp only; omega) (by simp -implicitDefEqProofs [liveOf, coldOf, pieceE_f, tp, hQ0, tN])
                  | false =>
                    simp at cl mp
                    simp -implicitDefEqProofs [hlt, hlt2, e2, mp, h5, tp, cl, hQ0, hb, tN]
                    exact rnd_next (i + 1, Q ++ [⟨true, false, [], h⟩]) ⟨by simp only; omega, by simpa [hideP, cloneP, hTv] using hs.symm⟩ (by simp only; omega) (by simp -implicitDefEqProofs [liveOf, coldOf, pieceE_f, tp, hQ0, tN])
                | false =>
                  cases bs with
                  | nil =>
                    cases z with
                    | true =>
                      simp at cl mp
                      simp -implicitDefEqProofs [hlt, hlt2, e2, mp, h5, tp, cp, cm, cl, hQ0, hb, tN]
                      exact rnd_next (i + 1, Q ++ [⟨false, true, [], h⟩]) ⟨by simp only; omega, by simpa [hideP, cloneP, hTv] using hs.symm⟩ (by simp only; omega) (by simp -implicitDefEqProofs [liveOf, coldOf, pieceE_f, tp, hQ0, tN])
                    | false =>
                      simp at cl mp
                      simp -implicitDefEqProofs [hlt, hlt2, e2, mp, h5, tp, cp, cm, cl, hQ0, hb, tN]
                      exact rnd_next (i + 1, Q ++ [⟨false, false, [], h⟩]) ⟨by simp only; omega, by simpa [hideP, cloneP, hTv] using hs.symm⟩ (by simp only; omega) (by simp -implicitDefEqProofs [liveOf, coldOf, pieceE_f, tp, hQ0, tN])
                  | cons b bs =>
                    have hrl : roV z (bs.length + 1) (.int .u8 b :: flatE (intE .u8) bs) = .ros (bs.length + 1) (.int .u8 b :: flatE (intE .u8) bs) := roV_pos (by omega)
                    simp at cl mp
                    simp -implicitDefEqProofs [hlt, hlt2, e2, mp, h5, tp, cp, cm, cl, hQ0, hb, tN]
                    exact rnd_next (i + 1, Q ++ [⟨false, false, b :: bs, h⟩]) ⟨by simp only; omega, by simpa [hideP, cloneP, hTv] using hs.symm⟩ (by simp only; omega) (by simp -implicitDefEqProofs [liveOf, coldOf, pieceE_f, tp, hQ0, tN])
          · have hi' : i = c + 1 := by omega
            subst hi'
            have hlt2 : ¬ ((c : Int) + 1 < (c : Int) + 1) := by omega
            rw [List.take_of_length_le (by omega)] at hQ
            rw [← hQ]
            simp -implicitDefEqProofs [hlt2, hQl]
theorem hide_gf (n : Nat) (ps : List Piece) (c : Nat) (l R : List Span) (hn : n ≤ 65536) (hc : blocksN n = c + 1) (hp : ps.length = c + 1) (ap : allOk n ps = true) (hl : l.length ≤ 4096) (hw : Within n l) {k : Nat} (hk : 200000 < k) :
    evF Try.prog Γ (k + 1) 24 [.agg [.int .i64 n, .sl 0 0 (c + 1) 3], .sl 1 0 l.length 2] [some (.cells (flatE pieceE ps) false), some (.cells (flatE spanE (l ++ R)) false)] = some (.tup [.agg [.int .i64 n, .sl 2 0 (c + 1) 3], .int .i64 0], [some (.cells (flatE pieceE ps) false), some (.cells (flatE spanE (l ++ R)) false), some (.cells (flatE pieceE (hideL ps (touched l n))) false)]) := by
  obtain ⟨k, rfl⟩ : ∃ j, k = j + 2 := ⟨k - 2, by omega⟩
  have hB : blocksN n ≤ 1024 := by unfold blocksN; omega
  have bp := allOk_len ap
  have tp : List.take ((c + 1) * 3) (flatE pieceE ps) = flatE pieceE ps := by rw [List.take_of_length_le]; simp [hp]
  have cc := exCheck_ok n ps false (fun p hp => by have := bp p hp; omega) (by omega) (k := k + 1) (by omega)
  have hcr : checkR n ps = 0 := by
    unfold checkR
    rw [if_neg (by omega), if_pos ⟨by simp; omega, by simpa using ap⟩]
  rw [hcr, hp] at cc
  simp only [roV_false] at cc
  have cn := norm_ok l false (by omega) (k := k + 1) (by omega)
  simp at cn
  have nf := norm_facts l
  have hcm : ∀ p, common (normL l) [p] ↔ common l [p] := fun p => by unfold common; simp only [nf.2.2]
  have hTd : ∀ i, touched l n i = true ↔ common (normL l) [⟨(i : Int) * 64, placeL n i⟩] := fun i => by rw [hcm]; exact touched_iff _ _ _
  have hNl : (normL l).length ≤ 4096 := Nat.le_trans nf.2.1 (by omega)
  clear nf hcm
  generalize touched l n = T at *
  generalize normL l = N at *
  have h00 : ¬ 4096 < 0 := by omega
  have tl : List.take (l.length * 2) (flatE spanE l ++ flatE spanE R) = flatE spanE l := by rw [List.take_append_of_le_length (by simp), List.take_of_length_le (by simp)]
  have hcl : ¬ (4096 : Int) < l.length := by omega
  have hcl2 : ¬ 4096 < l.length := by omega
  rw [b24 (fun _ _ => rfl) _ _ (by simp)]
  simp -implicitDefEqProofs [cc, tp, tl, hcl, hcl2]
  generalize hx : evLoopC _ _ _ _ _ _ _ _ _ _ = R0
  apply loop_gen hx (fun i : Nat => (mkL 87 .junk [(1, .sl 1 0 l.length 2), (2, .ptr 3 0), (4, .ptr 4 0), (23, .sl 1 0 l.length 2), (24, .int .i64 l.length), (25, .int .i64 i)],
      [some (.cells (flatE pieceE ps) false), some (.cells (flatE spanE l ++ flatE spanE R) false), none, some (.cells [.int .i64 n, .sl 0 0 (c + 1) 3] true), some (.cells [.int .i64 0, .nils] true), none, none, none])) (fun i => i ≤ l.length) (fun i => l.length - i) 0
  case hI => simp
  case hq => omega
  case ht => simp -implicitDefEqProofs [liveOf, coldOf]
  case round =>
    rintro i hi _
    clear hx
    by_cases hlt : i < l.length
    · have hlt2 : (i : Int) < l.length := by omega
      have e2 : addI .i64 (i : Int) 1 = (i : Int) + 1 := addI_i64 (by omega) (by omega)
      have ms := at_spans (l ++ R) i (by simp; omega)
      rw [flatE_append, List.getElem_append_left hlt] at ms
      have hin := hw _ (List.getElem_mem hlt)
      have ck := check_ok l[i] (k := k + 1)
      generalize l[i] = s at *
      have hok : s.ok := ⟨hin.1, hin.2.1, by omega, by omega⟩
      rw [if_pos hok] at ck
      have h3 : 2 ≤ l.length * 2 + R.length * 2 - i * 2 := by omega
      have e3 : addI .i64 s.off s.len = s.off + s.len := addI_i64 (by omega) (by omega)
      have hle : ¬ (n : Int) < s.off + s.len := by omega
      simp -implicitDefEqProofs [hlt, hlt2, e2, e3, ms, ck, h3, hle]
      exact rnd_next (i + 1) hlt (by omega) (by simp -implicitDefEqProofs [liveOf, coldOf])
    · have hi' : i = l.length := by omega
      subst hi'
      cases hN0 : N.length with
      | zero =>
        have hnil : N = [] := List.length_eq_zero_iff.1 hN0
        subst hnil
        simp at cn
        simp -implicitDefEqProofs [cn, tl, hcl, hcl2]
        generalize hx : evLoopC _ _ _ _ _ _ _ _ _ _ = R0
        apply loop_gen hx (fun a : Nat × List Piece => (mkL 87 .junk [(2, .ptr 2 0), (4, .ptr 3 0), (9, .nils), (10, .ptr 5 0), (50, .sl 0 0 (c + 1) 3), (51, .int .i64 ((c : Int) + 1)), (52, .int .i64 a.1)],
            [some (.cells (flatE pieceE ps) false), some (.cells (flatE spanE l ++ flatE spanE R) false), some (.cells [.int .i64 n, .sl 0 0 (c + 1) 3] true), some (.cells [.int .i64 0, .nils] true), none, some (.cells [.int .i64 n, ownV true 9 0 a.2.length 3] true), none, none, none, ownB true a.2.length (flatE pieceE a.2)]))
          (fun a => a.1 ≤ c + 1 ∧ a.2 = (hideL ps T).take a.1) (fun a => c + 1 - a.1) (0, [])
        case hI => simp
        case hq => simp only; omega
        case ht => simp -implicitDefEqProofs [liveOf, coldOf]
        case round =>
          rintro ⟨i, Q⟩ ⟨hi, hQ⟩ _
          clear hx
          simp only at hi hQ
          have hjl : (hideL ps T).length = c + 1 := by simp [hideL, hp]
          have hQl : Q.length = i := by rw [hQ, List.length_take]; omega
          by_cases hlt : i < c + 1
          · have hlt2 : (i : Int) < (c : Int) + 1 := by omega
            have e2 : addI .i64 (i : Int) 1 = (i : Int) + 1 := addI_i64 (by omega) (by omega)
            have hip : i < ps.length := by omega
            have mp := at_pieces ps i hip
            have h5 : 3 ≤ ps.length * 3 - i * 3 := by omega
            have hs : (hideL ps T).take (i + 1) = Q ++ [hideP (T i) ps[i]] := by
              rw [List.take_succ_eq_append_getElem (by omega), ← hQ]
              simp [hideL, List.getD_eq_getElem?_getD, hip]
            have hbp := bp _ (List.getElem_mem hip)
            have hok := (allOk_iff n ps).1 ap i hip
            generalize ps[i] = p at *
            obtain ⟨hd, z, bs, h⟩ := p
            simp only at mp hbp
            have cp := place_ok n i (by omega) (by omega) (k := k + 1)
            have hTi := hTd i
            obtain ⟨O, cm, hO⟩ := meet_ok [] [⟨(i : Int) * 64, placeL n i⟩] true false (by simp) (by simp) (k := k + 1) (by simp only [List.length_singleton, List.length_nil]; omega)
            rw [← hTi] at hO
            simp [spanE_f] at cm
            have ch := hash_ok bs z (by omega) (k := k + 1) (by omega)
            have cl := clone_ok bs z (by omega) (k := k + 1)
            have cl0 := clone_ok [] true (by simp) (k := k + 1)
            simp at cl0
            cases hQ0 : Q.length with
            | zero =>
              have hnilQ : Q = [] := List.length_eq_zero_iff.1 hQ0
              subst hnilQ
              cases hTv : T i with
              | true =>
                have hOne : O ≠ [] := hO.2 hTv
                obtain ⟨o, hOl⟩ : ∃ o, O.length = o + 1 := ⟨O.length - 1, by have := List.length_pos_iff.2 hOne; omega⟩
                rw [hOl] at cm
                simp at cm
                have hop : (0 : Int) < (o : Int) + 1 := by omega
                cases hd with
                | true =>
                  have hbs : bs = [] := by simpa [pieceOk] using hok
                  subst hbs
                  cases z with
                  | true =>
                    simp at cl mp
                    simp -implicitDefEqProofs [hlt, hlt2, e2, mp, h5, tp, cl]
                    exact rnd_next (i + 1, [] ++ [⟨true, true, [], h⟩]) ⟨by simp only; omega, by simpa [hideP, cloneP, hTv] using hs.symm⟩ (by simp only; omega) (by simp -implicitDefEqProofs [liveOf, coldOf, pieceE_f, tp])
                  | false =>
                    simp at cl mp
                    simp -implicitDefEqProofs [hlt, hlt2, e2, mp, h5, tp, cl]
                    exact rnd_next (i + 1, [] ++ [⟨true, false, [], h⟩]) ⟨by simp only; omega, by simpa [hideP, cloneP, hTv] using hs.symm⟩ (by simp only; omega) (by simp -implicitDefEqProofs [liveOf, coldOf, pieceE_f, tp])
                | false =>
                  simp -implicitDefEqProofs [hlt, hlt2, e2, mp, h5, tp, cp, cm, hop, ch, cl0]
                  exact rnd_next (i + 1, [] ++ [⟨true, true, [], hash bs⟩]) ⟨by simp only; omega, by simpa [hideP, cloneP, hTv] using hs.symm⟩ (by simp only; omega) (by simp -implicitDefEqProofs [liveOf, coldOf, pieceE_f, tp])
              | false =>
                have hOne : O = [] := by
                  refine Classical.byContradiction fun h => ?_
                  rw [hO.1 h] at hTv; cases hTv
                subst hOne
                simp at cm
                cases hd with
                | true =>
                  have hbs : bs = [] := by simpa [pieceOk] using hok
                  subst hbs
                  cases z with
                  | true =>
                    simp at cl mp
                    simp -implicitDefEqProofs [hlt, hlt2, e2, mp, h5, tp, cl]
                    exact rnd_next (i + 1, [] ++ [⟨true, true, [], h⟩]) ⟨by simp only; omega, by simpa [hideP, cloneP, hTv] using hs.symm⟩ (by simp only; omega) (by simp -implicitDefEqProofs [liveOf, coldOf, pieceE_f, tp])
                  | false =>
                    simp at cl mp
                    simp -implicitDefEqProofs [hlt, hlt2, e2, mp, h5, tp, cl]
                    exact rnd_next (i + 1, [] ++ [⟨true, false, [], h⟩]) ⟨by simp only; omega, by simpa [hideP, cloneP, hTv] using hs.symm⟩ (by simp only; omega) (by simp -implicitDefEqProofs [liveOf, coldOf, pieceE_f, tp])
                | false =>
                  cases bs with
                  | nil =>
                    cases z with
                    | true =>
                      simp at cl mp
                      simp -implicitDefEqProofs [hlt, hlt2, e2, mp, h5, tp, cp, cm, cl]
                      exact rnd_next (i + 1, [] ++ [⟨false, true, [], h⟩]) ⟨by simp only; omega, by simpa [hideP, cloneP, hTv] using hs.symm⟩ (by simp only; omega) (by simp -implicitDefEqProofs [liveOf, coldOf, pieceE_f, tp])
                    | false =>
                      simp at cl mp
                      simp -implicitDefEqProofs [hlt, hlt2, e2, mp, h5, tp, cp, cm, cl]
                      exact rnd_next (i + 1, [] ++ [⟨false, false, [], h⟩]) ⟨by simp only; omega, by simpa [hideP, cloneP, hTv] using hs.symm⟩ (by simp only; omega) (by simp -implicitDefEqProofs [liveOf, coldOf, pieceE_f, tp])
                  | cons b bs =>
                    have hrl : roV z (bs.length + 1) (.int .u8 b :: flatE (intE .u8) bs) = .ros (bs.length + 1) (.int .u8 b :: flatE (intE .u8) bs) := roV_pos (by omega)
                    simp at cl mp
                    simp -implicitDefEqProofs [hlt, hlt2, e2, mp, h5, tp, cp, cm, cl]
                    exact rnd_next (i + 1, [] ++ [⟨false, false, b :: bs, h⟩]) ⟨by simp only; omega, by simpa [hideP, cloneP, hTv] using hs.symm⟩ (by simp only; omega) (by simp -implicitDefEqProofs [liveOf, coldOf, pieceE_f, tp])
            | succ r =>
              have hb : (r + 1 + 1) * 40 ≤ 140737488355328 := by omega
              cases hTv : T i with
              | true =>
                have hOne : O ≠ [] := hO.2 hTv
                obtain ⟨o, hOl⟩ : ∃ o, O.length = o + 1 := ⟨O.length - 1, by have := List.length_pos_iff.2 hOne; omega⟩
                rw [hOl] at cm
                simp at cm
                have hop : (0 : Int) < (o : Int) + 1 := by omega
                cases hd with
                | true =>
                  have hbs : bs = [] := by simpa [pieceOk] using hok
                  subst hbs
                  cases z with
                  | true =>
                    simp at cl mp
                    simp -implicitDefEqProofs [hlt, hlt2, e2, mp, h5, tp, cl, hQ0, hb]
                    exact rnd_next (i + 1, Q ++ [⟨true, true, [], h⟩]) ⟨by simp only; omega, by simpa [hideP, cloneP, hTv] using hs.symm⟩ (by simp only; omega) (by simp -implicitDefEqProofs [liveOf, coldOf, pieceE_f, tp, hQ0])
                  | false =>
                    simp at cl mp
                    simp -implicitDefEqProofs [hlt, hlt2, e2, mp, h5, tp, cl, hQ0, hb]
                    exact rnd_next (i + 1, Q ++ [⟨true, false, [], h⟩]) ⟨by simp only; omega, by simpa [hideP, cloneP, hTv] using hs.symm⟩ (by simp only; omega) (by simp -implicitDefEqProofs [liveOf, coldOf, pieceE_f, tp, hQ0])
                | false =>
                  simp -implicitDefEqProofs [hlt, hlt2, e2, mp, h5, tp, cp, cm, hop, ch, cl0, hQ0, hb]
                  exact rnd_next (i + 1, Q ++ [⟨true, true, [], hash bs⟩]) ⟨by simp only; omega, by simpa [hideP, cloneP, hTv] using hs.symm⟩ (by simp only; omega) (by simp -implicitDefEqProofs [liveOf, coldOf, pieceE_f, tp, hQ0])
              | false =>
                have hOne : O = [] := by
                  refine Classical.byContradiction fun h => ?_
                  rw [hO.1 h] at hTv; cases hTv
                subst hOne
                simp at cm
                cases hd with
                | true =>
                  have hbs : bs = [] := by simpa [pieceOk] using hok
                  subst hbs
                  cases z with
                  | true =>
                    simp at cl mp
                    simp -implicitDefEqProofs [hlt, hlt2, e2, mp, h5, tp, cl, hQ0, hb]
                    exact rnd_next (i + 1, Q ++ [⟨true, true, [], h⟩]) ⟨by simp only; omega, by simpa [hideP, cloneP, hTv] using hs.symm⟩ (by simp only; omega) (by simp -implicitDefEqProofs [liveOf, coldOf, pieceE_f, tp, hQ0])
                  | false =>
                    simp at cl mp
                    simp -implicitDefEqProofs [hlt, hlt2, e2, mp, h5, tp, cl, hQ0, hb]
                    exact rnd_next (i + 1, Q ++ [⟨true, false, [], h⟩]) ⟨by simp only; omega, by simpa [hideP, cloneP, hTv] using hs.symm⟩ (by simp only; omega) (by simp -implicitDefEqProofs [liveOf, coldOf, pieceE_f, tp, hQ0])
                | false =>
                  cases bs with
                  | nil =>
                    cases z with
                    | true =>
                      simp at cl mp
                      simp -implicitDefEqProofs [hlt, hlt2, e2, mp, h5, tp, cp, cm, cl, hQ0, hb]
                      exact rnd_next (i + 1, Q ++ [⟨false, true, [], h⟩]) ⟨by simp only; omega, by simpa [hideP, cloneP, hTv] using hs.symm⟩ (by simp only; omega) (by simp -implicitDefEqProofs [liveOf, coldOf, pieceE_f, tp, hQ0])
                    | false =>
                      simp at cl mp
                      simp -implicitDefEqProofs [hlt, hlt2, e2, mp, h5, tp, cp, cm, cl, hQ0, hb]
                      exact rnd_next (i + 1, Q ++ [⟨false, false, [], h⟩]) ⟨by simp only; omega, by simpa [hideP, cloneP, hTv] using hs.symm⟩ (by simp only; omega) (by simp -implicitDefEqProofs [liveOf, coldOf, pieceE_f, tp, hQ0])
                  | cons b bs =>
                    have hrl : roV z (bs.length + 1) (.int .u8 b :: flatE (intE .u8) bs) = .ros (bs.length + 1) (.int .u8 b :: flatE (intE .u8) bs) := roV_pos (by omega)
                    simp at cl mp
                    simp -implicitDefEqProofs [hlt, hlt2, e2, mp, h5, tp, cp, cm, cl, hQ0, hb]
                    exact rnd_next (i + 1, Q ++ [⟨false, false, b :: bs, h⟩]) ⟨by simp only; omega, by simpa [hideP, cloneP, hTv] using hs.symm⟩ (by simp only; omega) (by simp -implicitDefEqProofs [liveOf, coldOf, pieceE_f, tp, hQ0])
          · have hi' : i = c + 1 := by omega
            subst hi'
            have hlt2 : ¬ ((c : Int) + 1 < (c : Int) + 1) := by omega
            rw [List.take_of_length_le (by omega)] at hQ
            rw [← hQ]
            simp -implicitDefEqProofs [hlt2, hQl]
      | succ d =>
        rw [hN0] at cn
        simp at cn
        simp -implicitDefEqProofs [cn, tl, hcl, hcl2]
        generalize hx : evLoopC _ _ _ _ _ _ _ _ _ _ = R0
        apply loop_gen hx (fun a : Nat × List Piece => (mkL 87 .junk [(2, .ptr 2 0), (4, .ptr 3 0), (9, .sl 4 0 (d + 1) 2), (10, .ptr 5 0), (50, .sl 0 0 (c + 1) 3), (51, .int .i64 ((c : Int) + 1)), (52, .int .i64 a.1)],
            [some (.cells (flatE pieceE ps) false), some (.cells (flatE spanE l ++ flatE spanE R) false), some (.cells [.int .i64 n, .sl 0 0 (c + 1) 3] true), some (.cells [.int .i64 0, .nils] true), some (.cells (flatE spanE N) false), some (.cells [.int .i64 n, ownV true 9 0 a.2.length 3] true), none, none, none, ownB true a.2.length (flatE pieceE a.2)]))
          (fun a => a.1 ≤ c + 1 ∧ a.2 = (hideL ps T).take a.1) (fun a => c + 1 - a.1) (0, [])
        case hI => simp
        case hq => simp only; omega
        case ht => simp -implicitDefEqProofs [liveOf, coldOf]
        case round =>
          rintro ⟨i, Q⟩ ⟨hi, hQ⟩ _
          clear hx
          simp only at hi hQ
          have hjl : (hideL ps T).length = c + 1 := by simp [hideL, hp]
          have hQl : Q.length = i := by rw [hQ, List.length_take]; omega
          by_cases hlt : i < c + 1
          · have hlt2 : (i : Int) < (c : Int) + 1 := by omega
            have e2 : addI .i64 (i : Int) 1 = (i : Int) + 1 := addI_i64 (by omega) (by omega)
            have hip : i < ps.length := by omega
            have mp := at_pieces ps i hip
            have h5 : 3 ≤ ps.length * 3 - i * 3 := by omega
            have hs : (hideL ps T).take (i + 1) = Q ++ [hideP (T i) ps[i]] := by
              rw [List.take_succ_eq_append_getElem (by omega), ← hQ]
              simp [hideL, List.getD_eq_getElem?_getD, hip]
            have hbp := bp _ (List.getElem_mem hip)
            have hok := (allOk_iff n ps).1 ap i hip
            generalize ps[i] = p at *
            obtain ⟨hd, z, bs, h⟩ := p
            simp only at mp hbp
            have cp := place_ok n i (by omega) (by omega) (k := k + 1)
            have hTi := hTd i
            obtain ⟨O, cm, hO⟩ := meet_ok N [⟨(i : Int) * 64, placeL n i⟩] true false (by omega) (by simp) (k := k + 1) (by simp only [List.length_singleton]; omega)
            rw [← hTi] at hO
            rw [hN0] at cm
            have tN : List.take ((d + 1) * 2) (flatE spanE N) = flatE spanE N := by rw [List.take_of_length_le]; simp [hN0]
            simp [spanE_f] at cm
            have ch := hash_ok bs z (by omega) (k := k + 1) (by omega)
            have cl := clone_ok bs z (by omega) (k := k + 1)
            have cl0 := clone_ok [] true (by simp) (k := k + 1)
            simp at cl0
            cases hQ0 : Q.length with
            | zero =>
              have hnilQ : Q = [] := List.length_eq_zero_iff.1 hQ0
              subst hnilQ
              cases hTv : T i with
              | true =>
                have hOne : O ≠ [] := hO.2 hTv
                obtain ⟨o, hOl⟩ : ∃ o, O.length = o + 1 := ⟨O.length - 1, by have := List.length_pos_iff.2 hOne; omega⟩
                rw [hOl] at cm
                simp at cm
                have hop : (0 : Int) < (o : Int) + 1 := by omega
                cases hd with
                | true =>
                  have hbs : bs = [] := by simpa [pieceOk] using hok
                  subst hbs
                  cases z with
                  | true =>
                    simp at cl mp
                    simp -implicitDefEqProofs [hlt, hlt2, e2, mp, h5, tp, cl, tN]
                    exact rnd_next (i + 1, [] ++ [⟨true, true, [], h⟩]) ⟨by simp only; omega, by simpa [hideP, cloneP, hTv] using hs.symm⟩ (by simp only; omega) (by simp -implicitDefEqProofs [liveOf, coldOf, pieceE_f, tp, tN])
                  | false =>
                    simp at cl mp
                    simp -implicitDefEqProofs [hlt, hlt2, e2, mp, h5, tp, cl, tN]
                    exact rnd_next (i + 1, [] ++ [⟨true, false, [], h⟩]) ⟨by simp only; omega, by simpa [hideP, cloneP, hTv] using hs.symm⟩ (by simp only; omega) (by simp -implicitDefEqProofs [liveOf, coldOf, pieceE_f, tp, tN])
                | false =>
                  simp -implicitDefEqProofs [hlt, hlt2, e2, mp, h5, tp, cp, cm, hop, ch, cl0, tN]
                  exact rnd_next (i + 1, [] ++ [⟨true, true, [], hash bs⟩]) ⟨by simp only; omega, by simpa [hideP, cloneP, hTv] using hs.symm⟩ (by simp only; omega) (by simp -implicitDefEqProofs [liveOf, coldOf, pieceE_f, tp, tN])
              | false =>
                have hOne : O = [] := by
                  refine Classical.byContradiction fun h => ?_
                  rw [hO.1 h] at hTv; cases hTv
                subst hOne
                simp at cm
                cases hd with
                | true =>
                  have hbs : bs = [] := by simpa [pieceOk] using hok
                  subst hbs
                  cases z with
                  | true =>
                    simp at cl mp
                    simp -implicitDefEqProofs [hlt, hlt2, e2, mp, h5, tp, cl, tN]
                    exact rnd_next (i + 1, [] ++ [⟨true, true, [], h⟩]) ⟨by simp only; omega, by simpa [hideP, cloneP, hTv] using hs.symm⟩ (by simp only; omega) (by simp -implicitDefEqProofs [liveOf, coldOf, pieceE_f, tp, tN])
                  | false =>
                    simp at cl mp
                    simp -implicitDefEqProofs [hlt, hlt2, e2, mp, h5, tp, cl, tN]
                    exact rnd_next (i + 1, [] ++ [⟨true, false, [], h⟩]) ⟨by simp only; omega, by simpa [hideP, cloneP, hTv] using hs.symm⟩ (by simp only; omega) (by simp -implicitDefEqProofs [liveOf, coldOf, pieceE_f, tp, tN])
                | false =>
                  cases bs with
                  | nil =>
                    cases z with
                    | true =>
                      simp at cl mp
                      simp -implicitDefEqProofs [hlt, hlt2, e2, mp, h5, tp, cp, cm, cl, tN]
                      exact rnd_next (i + 1, [] ++ [⟨false, true, [], h⟩]) ⟨by simp only; omega, by simpa [hideP, cloneP, hTv] using hs.symm⟩ (by simp only; omega) (by simp -implicitDefEqProofs [liveOf, coldOf, pieceE_f, tp, tN])
                    | false =>
                      simp at cl mp
                      simp -implicitDefEqProofs [hlt, hlt2, e2, mp, h5, tp, cp, cm, cl, tN]
                      exact rnd_next (i + 1, [] ++ [⟨false, false, [], h⟩]) ⟨by simp only; omega, by simpa [hideP, cloneP, hTv] using hs.symm⟩ (by simp only; omega) (by simp -implicitDefEqProofs [liveOf, coldOf, pieceE_f, tp, tN])
                  | cons b bs =>
                    have hrl : roV z (bs.length + 1) (.int .u8 b :: flatE (intE .u8) bs) = .ros (bs.length + 1) (.int .u8 b :: flatE (intE .u8) bs) := roV_pos (by omega)
                    simp at cl mp
                    simp -implicitDefEqProofs [hlt, hlt2, e2, mp, h5, tp, cp, cm, cl, tN]
                    exact rnd_next (i + 1, [] ++ [⟨false, false, b :: bs, h⟩]) ⟨by simp only; omega, by simpa [hideP, cloneP, hTv] using hs.symm⟩ (by simp only; omega) (by simp -implicitDefEqProofs [liveOf, coldOf, pieceE_f, tp, tN])
            | succ r =>
              have hb : (r + 1 + 1) * 40 ≤ 140737488355328 := by omega
              cases hTv : T i with
              | true =>
                have hOne : O ≠ [] := hO.2 hTv
                obtain ⟨o, hOl⟩ : ∃ o, O.length = o + 1 := ⟨O.length - 1, by have := List.length_pos_iff.2 hOne; omega⟩
                rw [hOl] at cm
                simp at cm
                have hop : (0 : Int) < (o : Int) + 1 := by omega
                cases hd with
                | true =>
                  have hbs : bs = [] := by simpa [pieceOk] using hok
                  subst hbs
                  cases z with
                  | true =>
                    simp at cl mp
                    simp -implicitDefEqProofs [hlt, hlt2, e2, mp, h5, tp, cl, hQ0, hb, tN]
                    exact rnd_next (i + 1, Q ++ [⟨true, true, [], h⟩]) ⟨by simp only; omega, by simpa [hideP, cloneP, hTv] using hs.symm⟩ (by simp only; omega) (by simp -implicitDefEqProofs [liveOf, coldOf, pieceE_f, tp, hQ0, tN])
                  | false =>
                    simp at cl mp
                    simp -implicitDefEqProofs [hlt, hlt2, e2, mp, h5, tp, cl, hQ0, hb, tN]
                    exact rnd_next (i + 1, Q ++ [⟨true, false, [], h⟩]) ⟨by simp only; omega, by simpa [hideP, cloneP, hTv] using hs.symm⟩ (by simp only; omega) (by simp -implicitDefEqProofs [liveOf, coldOf, pieceE_f, tp, hQ0, tN])
                | false =>
                  simp -implicitDefEqProofs [hlt, hlt2, e2, mp, h5, tp, cp, cm, hop, ch, cl0, hQ0, hb, tN]
                  exact rnd_next (i + 1, Q ++ [⟨true, true, [], hash bs⟩]) ⟨by simp only; omega, by simpa [hideP, cloneP, hTv] using hs.symm⟩ (by simp only; omega) (by simp -implicitDefEqProofs [liveOf, coldOf, pieceE_f, tp, hQ0, tN])
              | false =>
                have hOne : O = [] := by
                  refine Classical.byContradiction fun h => ?_
                  rw [hO.1 h] at hTv; cases hTv
                subst hOne
                simp at cm
                cases hd with
                | true =>
                  have hbs : bs = [] := by simpa [pieceOk] using hok
                  subst hbs
                  cases z with
                  | true =>
                    simp at cl mp
                    simp -implicitDefEqProofs [hlt, hlt2, e2, mp, h5, tp, cl, hQ0, hb, tN]
                    exact rnd_next (i + 1, Q ++ [⟨true, true, [], h⟩]) ⟨by simp only; omega, by simpa [hideP, cloneP, hTv] using hs.symm⟩ (by simp only; omega) (by simp -implicitDefEqProofs [liveOf, coldOf, pieceE_f, tp, hQ0, tN])
                  | false =>
                    simp at cl mp
                    simp -implicitDefEqProofs [hlt, hlt2, e2, mp, h5, tp, cl, hQ0, hb, tN]
                    exact rnd_next (i + 1, Q ++ [⟨true, false, [], h⟩]) ⟨by simp only; omega, by simpa [hideP, cloneP, hTv] using hs.symm⟩ (by simp only; omega) (by simp -implicitDefEqProofs [liveOf, coldOf, pieceE_f, tp, hQ0, tN])
                | false =>
                  cases bs with
                  | nil =>
                    cases z with
                    | true =>
                      simp at cl mp
                      simp -implicitDefEqProofs [hlt, hlt2, e2, mp, h5, tp, cp, cm, cl, hQ0, hb, tN]
                      exact rnd_next (i + 1, Q ++ [⟨false, true, [], h⟩]) ⟨by simp only; omega, by simpa [hideP, cloneP, hTv] using hs.symm⟩ (by simp only; omega) (by simp -implicitDefEqProofs [liveOf, coldOf, pieceE_f, tp, hQ0, tN])
                    | false =>
                      simp at cl mp
                      simp -implicitDefEqProofs [hlt, hlt2, e2, mp, h5, tp, cp, cm, cl, hQ0, hb, tN]
                      exact rnd_next (i + 1, Q ++ [⟨false, false, [], h⟩]) ⟨by simp only; omega, by simpa [hideP, cloneP, hTv] using hs.symm⟩ (by simp only; omega) (by simp -implicitDefEqProofs [liveOf, coldOf, pieceE_f, tp, hQ0, tN])
                  | cons b bs =>
                    have hrl : roV z (bs.length + 1) (.int .u8 b :: flatE (intE .u8) bs) = .ros (bs.length + 1) (.int .u8 b :: flatE (intE .u8) bs) := roV_pos (by omega)
                    simp at cl mp
                    simp -implicitDefEqProofs [hlt, hlt2, e2, mp, h5, tp, cp, cm, cl, hQ0, hb, tN]
                    exact rnd_next (i + 1, Q ++ [⟨false, false, b :: bs, h⟩]) ⟨by simp only; omega, by simpa [hideP, cloneP, hTv] using hs.symm⟩ (by simp only; omega) (by simp -implicitDefEqProofs [liveOf, coldOf, pieceE_f, tp, hQ0, tN])
          · have hi' : i = c + 1 := by omega
            subst hi'
            have hlt2 : ¬ ((c : Int) + 1 < (c : Int) + 1) := by omega
            rw [List.take_of_length_le (by omega)] at hQ
            rw [← hQ]
            simp -implicitDefEqProofs [hlt2, hQl]
end Go.Ev.Try

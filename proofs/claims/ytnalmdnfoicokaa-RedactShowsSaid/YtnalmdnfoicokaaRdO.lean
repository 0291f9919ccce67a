/-
  THE REDACT SEAT: redact.Join walked (own work, printed by wip/tools/gen_join.py).
-/
import Derived.Test.YtnalmdnfoicokaaRdN
set_option linter.unusedSimpArgs false
set_option linter.unusedVariables false
set_option maxRecDepth 100000
set_option maxHeartbeats 8000000
namespace Go.Ev.Try
open Go Go.Ev Go.Proofs

/-- A piece with its bytes cloned. -/
def cloneP (p : Piece) : Piece := ⟨p.hid, p.z && p.bs.isEmpty, p.bs, p.hash⟩
def joinP (p q : Piece) : Piece := cloneP (if p.hid then q else p)
def joinL (ps qs : List Piece) : List Piece := (List.range ps.length).map fun i => joinP (ps.getD i default) (qs.getD i default)

theorem join_ok (n : Nat) (ps qs : List Piece) (c : Nat) (hn : n ≤ 65536) (hc : blocksN n = c + 1) (hp : ps.length = c + 1) (hq : qs.length = c + 1) (ap : allOk n ps = true) (aq : allOk n qs = true) (hr : rootL (ps.map hashOf) = rootL (qs.map hashOf)) {k : Nat} (hk : 5000 < k) :
    evF Try.prog Γ (k + 1) 10 [.agg [.int .i64 n, .sl 0 0 (c + 1) 3], .agg [.int .i64 n, .sl 1 0 (c + 1) 3]] [some (.cells (flatE pieceE ps) false), some (.cells (flatE pieceE qs) false)] =
      some (.tup [.agg [.int .i64 n, .sl 2 0 (c + 1) 3], .int .i64 0], [some (.cells (flatE pieceE ps) false), some (.cells (flatE pieceE qs) false), some (.cells (flatE pieceE (joinL ps qs)) false)]) := by
  obtain ⟨k, rfl⟩ : ∃ j, k = j + 1 := ⟨k - 1, by omega⟩
  have hB : blocksN n ≤ 1024 := by unfold blocksN; omega
  have bp := allOk_len ap
  have bq := allOk_len aq
  have cp := root_ok n ps false hn (by omega) ap (k := k) (by omega)
  have cq := root_ok n qs false hn (by omega) aq (k := k) (by omega)
  rw [hp] at cp
  rw [hq, ← hr] at cq
  simp only [roV_false] at cp cq
  have tp : List.take ((c + 1) * 3) (flatE pieceE ps) = flatE pieceE ps := by rw [List.take_of_length_le]; simp [hp]
  have tq : List.take ((c + 1) * 3) (flatE pieceE qs) = flatE pieceE qs := by rw [List.take_of_length_le]; simp [hq]
  rw [b10 (fun _ _ => rfl) _ _ (by simp)]
  simp -implicitDefEqProofs [cp, cq, tp, tq]
  generalize hx : evLoopC _ _ _ _ _ _ _ _ _ _ = R
  apply loop_gen hx (fun a : Nat × List Piece => (mkL 71 .junk [(3, .ptr 2 0), (4, .ptr 3 0), (9, .ptr 4 0), (45, .sl 0 0 (c + 1) 3), (46, .int .i64 ((c : Int) + 1)), (47, .int .i64 a.1)],
      [some (.cells (flatE pieceE ps) false), some (.cells (flatE pieceE qs) false), some (.cells [.int .i64 n, .sl 1 0 (c + 1) 3] true), some (.cells [.int .i64 0, .nils] true), some (.cells [.int .i64 n, ownV true 8 0 a.2.length 3] true), none, none, none, ownB true a.2.length (flatE pieceE a.2)]))
    (fun a => a.1 ≤ c + 1 ∧ a.2 = (joinL ps qs).take a.1) (fun a => c + 1 - a.1) (0, [])
  case hI => simp
  case hq => simp only; omega
  case ht => simp -implicitDefEqProofs [liveOf, coldOf, tp, tq]
  case round =>
    rintro ⟨i, Q⟩ ⟨hi, hQ⟩ _
    clear hx
    simp only at hi hQ
    have hjl : (joinL ps qs).length = c + 1 := by simp [joinL, hp]
    have hQl : Q.length = i := by rw [hQ, List.length_take]; omega
    by_cases hlt : i < c + 1
    · have hlt2 : (i : Int) < (c : Int) + 1 := by omega
      have e2 : addI .i64 (i : Int) 1 = (i : Int) + 1 := addI_i64 (by omega) (by omega)
      have hip : i < ps.length := by omega
      have hiq : i < qs.length := by omega
      have mp := at_pieces ps i hip
      have mq := at_pieces qs i hiq
      have h5 : 3 ≤ ps.length * 3 - i * 3 := by omega
      have h6 : 3 ≤ qs.length * 3 - i * 3 := by omega
      have hs : (joinL ps qs).take (i + 1) = Q ++ [joinP ps[i] qs[i]] := by
        rw [List.take_succ_eq_append_getElem (by omega), ← hQ]
        simp [joinL, List.getD_eq_getElem?_getD, hip, hiq]
      have hbp := bp _ (List.getElem_mem hip)
      have hbq := bq _ (List.getElem_mem hiq)
      generalize ps[i] = p at *
      generalize qs[i] = q at *
      obtain ⟨hd, z, bs, h⟩ := p
      obtain ⟨hd2, z2, bs2, h2⟩ := q
      simp only at mp mq hbp hbq
      cases hQ0 : Q.length with
      | zero =>
        have hnilQ : Q = [] := List.length_eq_zero_iff.1 hQ0
        subst hnilQ
        cases hd with
        | true =>
          have cl := clone_ok bs2 z2 (by omega) (k := k)
          cases bs2 with
          | nil =>
            cases z2 with
            | true =>
              simp at cl mp mq
              simp -implicitDefEqProofs [hlt, hlt2, e2, mp, mq, h5, h6, cl, tp, tq]
              exact rnd_next (i + 1, [] ++ [⟨hd2, true, [], h2⟩]) ⟨by simp only; omega, hs.symm⟩ (by simp only; omega) (by simp -implicitDefEqProofs [liveOf, coldOf, pieceE_f, tp, tq])
            | false =>
              simp at cl mp mq
              simp -implicitDefEqProofs [hlt, hlt2, e2, mp, mq, h5, h6, cl, tp, tq]
              exact rnd_next (i + 1, [] ++ [⟨hd2, false, [], h2⟩]) ⟨by simp only; omega, hs.symm⟩ (by simp only; omega) (by simp -implicitDefEqProofs [liveOf, coldOf, pieceE_f, tp, tq])
          | cons b bs =>
            have hrl : roV z2 (bs.length + 1) (.int .u8 b :: flatE (intE .u8) bs) = .ros (bs.length + 1) (.int .u8 b :: flatE (intE .u8) bs) := roV_pos (by omega)
            simp at cl mp mq
            simp -implicitDefEqProofs [hlt, hlt2, e2, mp, mq, h5, h6, cl, tp, tq]
            exact rnd_next (i + 1, [] ++ [⟨hd2, false, b :: bs, h2⟩]) ⟨by simp only; omega, by simpa [joinP, cloneP] using hs.symm⟩ (by simp only; omega) (by simp -implicitDefEqProofs [liveOf, coldOf, pieceE_f, tp, tq])
        | false =>
          have cl := clone_ok bs z (by omega) (k := k)
          cases bs with
          | nil =>
            cases z with
            | true =>
              simp at cl mp mq
              simp -implicitDefEqProofs [hlt, hlt2, e2, mp, mq, h5, h6, cl, tp, tq]
              exact rnd_next (i + 1, [] ++ [⟨false, true, [], h⟩]) ⟨by simp only; omega, hs.symm⟩ (by simp only; omega) (by simp -implicitDefEqProofs [liveOf, coldOf, pieceE_f, tp, tq])
            | false =>
              simp at cl mp mq
              simp -implicitDefEqProofs [hlt, hlt2, e2, mp, mq, h5, h6, cl, tp, tq]
              exact rnd_next (i + 1, [] ++ [⟨false, false, [], h⟩]) ⟨by simp only; omega, hs.symm⟩ (by simp only; omega) (by simp -implicitDefEqProofs [liveOf, coldOf, pieceE_f, tp, tq])
          | cons b bs =>
            have hrl : roV z (bs.length + 1) (.int .u8 b :: flatE (intE .u8) bs) = .ros (bs.length + 1) (.int .u8 b :: flatE (intE .u8) bs) := roV_pos (by omega)
            simp at cl mp mq
            simp -implicitDefEqProofs [hlt, hlt2, e2, mp, mq, h5, h6, cl, tp, tq]
            exact rnd_next (i + 1, [] ++ [⟨false, false, b :: bs, h⟩]) ⟨by simp only; omega, by simpa [joinP, cloneP] using hs.symm⟩ (by simp only; omega) (by simp -implicitDefEqProofs [liveOf, coldOf, pieceE_f, tp, tq])
      | succ r =>
        cases hd with
        | true =>
          have cl := clone_ok bs2 z2 (by omega) (k := k)
          have hb : (r + 1 + 1) * 40 ≤ 140737488355328 := by omega
          cases bs2 with
          | nil =>
            cases z2 with
            | true =>
              simp at cl mp mq
              simp -implicitDefEqProofs [hlt, hlt2, e2, mp, mq, h5, h6, cl, tp, tq, hQ0, hb]
              exact rnd_next (i + 1, Q ++ [⟨hd2, true, [], h2⟩]) ⟨by simp only; omega, hs.symm⟩ (by simp only; omega) (by simp -implicitDefEqProofs [liveOf, coldOf, pieceE_f, tp, tq, hQ0])
            | false =>
              simp at cl mp mq
              simp -implicitDefEqProofs [hlt, hlt2, e2, mp, mq, h5, h6, cl, tp, tq, hQ0, hb]
              exact rnd_next (i + 1, Q ++ [⟨hd2, false, [], h2⟩]) ⟨by simp only; omega, hs.symm⟩ (by simp only; omega) (by simp -implicitDefEqProofs [liveOf, coldOf, pieceE_f, tp, tq, hQ0])
          | cons b bs =>
            have hrl : roV z2 (bs.length + 1) (.int .u8 b :: flatE (intE .u8) bs) = .ros (bs.length + 1) (.int .u8 b :: flatE (intE .u8) bs) := roV_pos (by omega)
            simp at cl mp mq
            simp -implicitDefEqProofs [hlt, hlt2, e2, mp, mq, h5, h6, cl, tp, tq, hQ0, hb]
            exact rnd_next (i + 1, Q ++ [⟨hd2, false, b :: bs, h2⟩]) ⟨by simp only; omega, by simpa [joinP, cloneP] using hs.symm⟩ (by simp only; omega) (by simp -implicitDefEqProofs [liveOf, coldOf, pieceE_f, tp, tq, hQ0])
        | false =>
          have cl := clone_ok bs z (by omega) (k := k)
          have hb : (r + 1 + 1) * 40 ≤ 140737488355328 := by omega
          cases bs with
          | nil =>
            cases z with
            | true =>
              simp at cl mp mq
              simp -implicitDefEqProofs [hlt, hlt2, e2, mp, mq, h5, h6, cl, tp, tq, hQ0, hb]
              exact rnd_next (i + 1, Q ++ [⟨false, true, [], h⟩]) ⟨by simp only; omega, hs.symm⟩ (by simp only; omega) (by simp -implicitDefEqProofs [liveOf, coldOf, pieceE_f, tp, tq, hQ0])
            | false =>
              simp at cl mp mq
              simp -implicitDefEqProofs [hlt, hlt2, e2, mp, mq, h5, h6, cl, tp, tq, hQ0, hb]
              exact rnd_next (i + 1, Q ++ [⟨false, false, [], h⟩]) ⟨by simp only; omega, hs.symm⟩ (by simp only; omega) (by simp -implicitDefEqProofs [liveOf, coldOf, pieceE_f, tp, tq, hQ0])
          | cons b bs =>
            have hrl : roV z (bs.length + 1) (.int .u8 b :: flatE (intE .u8) bs) = .ros (bs.length + 1) (.int .u8 b :: flatE (intE .u8) bs) := roV_pos (by omega)
            simp at cl mp mq
            simp -implicitDefEqProofs [hlt, hlt2, e2, mp, mq, h5, h6, cl, tp, tq, hQ0, hb]
            exact rnd_next (i + 1, Q ++ [⟨false, false, b :: bs, h⟩]) ⟨by simp only; omega, by simpa [joinP, cloneP] using hs.symm⟩ (by simp only; omega) (by simp -implicitDefEqProofs [liveOf, coldOf, pieceE_f, tp, tq, hQ0])
    · have hi' : i = c + 1 := by omega
      subst hi'
      have hlt2 : ¬ ((c : Int) + 1 < (c : Int) + 1) := by omega
      rw [List.take_of_length_le (by omega)] at hQ
      rw [← hQ]
      simp -implicitDefEqProofs [hlt2, hQl]
end Go.Ev.Try

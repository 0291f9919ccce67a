/-
  THE REDACT SEAT: the reference's Blacked walked (own work, printed by wip/tools/gen_black.py).
-/
import Derived.Test.YtnalmdnfoicokaaRmC
set_option linter.unusedSimpArgs false
set_option linter.unusedVariables false
set_option maxRecDepth 100000
set_option maxHeartbeats 16000000
namespace Go.Ev.Try
open Go Go.Ev Go.Proofs

theorem blackedG_ok (bs : List Int) (zb : Bool) (l G : List Span) (ex : Bool) (h1 : 1 ≤ bs.length) (hn : bs.length ≤ 65536) (hl : l.length ≤ 4096) (hw : Within bs.length l) {k : Nat} (hk : 10000 < k) :
    evF Try.prog Γ (k + 1) 15 [.ros bs.length (flatE (intE .u8) bs), .sl 0 0 l.length 2] [some (.cells (flatE spanE (l ++ G)) ex)] = some (.agg [.int .i64 bs.length, .sl 1 0 (blocksN bs.length) 3], [some (.cells (flatE spanE (l ++ G)) ex), some (.cells (flatE pieceE (piecesOf zb bs (hitAny l))) false)]) := by
  obtain ⟨k, rfl⟩ : ∃ j, k = j + 1 := ⟨k - 1, by omega⟩
  have hB : blocksN bs.length ≤ 1024 := by unfold blocksN; omega
  have hB1 := blocksN_pos bs.length
  obtain ⟨nb, hnb⟩ : ∃ nb, blocksN bs.length = nb + 1 := ⟨blocksN bs.length - 1, by omega⟩
  have cc := cut_some bs h1 hn (k := k) (by omega)
  rw [hnb] at cc
  have hem : bs.isEmpty = false := by cases h : bs with | nil => rw [h] at h1; simp at h1 | cons _ _ => rfl
  have hcl : (cutL bs).length = nb + 1 := by simp [cutL, hnb]
  rw [hnb]
  rw [b15 (fun _ _ => rfl) _ _ (by simp)]
  simp -implicitDefEqProofs [cc]
  generalize hx : evLoopC _ _ _ _ _ _ _ _ _ _ = R
  apply loop_gen hx (fun a : Nat × List Piece => (mkL 63 .junk [(1, .sl 0 0 l.length 2), (4, .ptr 2 0), (5, .ptr 3 0), (15, .sl 4 0 (nb + 1) 1), (16, .int .i64 ((nb : Int) + 1)), (17, .int .i64 a.1)],
      [some (.cells (flatE spanE l ++ flatE spanE G) ex), none, some (.cells [.int .i64 0, .nils] true), some (.cells [.int .i64 bs.length, ownV true 6 0 a.2.length 3] true), some (.cells (flatE rosB (cutL bs)) false), none, ownB true a.2.length (flatE pieceE a.2)]))
    (fun a => a.1 ≤ nb + 1 ∧ a.2 = (List.range a.1).map (pieceOf zb bs (hitAny l))) (fun a => nb + 1 - a.1) (0, [])
  case hI => simp
  case hq => simp only; omega
  case ht => cases ex <;> simp -implicitDefEqProofs [liveOf, coldOf]
  case round =>
    rintro ⟨i, Q⟩ ⟨hi, hQ⟩ _
    clear hx
    simp only at hi hQ
    have hQl : Q.length = i := by rw [hQ]; simp
    by_cases hlt : i < nb + 1
    · have hlt2 : (i : Int) < (nb : Int) + 1 := by omega
      have e2 : addI .i64 (i : Int) 1 = (i : Int) + 1 := addI_i64 (by omega) (by omega)
      have hd := drop_rosB (cutL bs) i (by omega)
      have hci : (cutL bs)[i]'(by omega) = blockL bs i := by simp [cutL]
      rw [hci] at hd
      obtain ⟨q, hq, hq64, hqn, hbl, hbl0, hq0⟩ := block_facts bs i (by omega)
      have ch := hash_ok (blockL bs i) false (by omega) (k := k) (by omega)
      have hs : (List.range (i + 1)).map (pieceOf zb bs (hitAny l)) = Q ++ [pieceOf zb bs (hitAny l) i] := by rw [List.range_succ, List.map_append, ← hQ]; rfl
      have e3 : mulI .i64 64 (i : Int) = 64 * (i : Int) := mulI_i64 (by omega) (by omega)
      have e4 : addI .i64 (64 * (i : Int)) 64 = 64 * (i : Int) + 64 := addI_i64 (by omega) (by omega)
      rw [hbl0] at hd ch
      simp at ch
      have hbB : blocksN bs.length ≤ 1024 := hB
      cases hQ0 : Q.length with
      | zero =>
        have hnilQ : Q = [] := List.length_eq_zero_iff.1 hQ0
        subst hnilQ
        simp -implicitDefEqProofs [hlt, hlt2, hd]
        generalize hx : evLoopC _ _ _ _ _ _ _ _ _ _ = R
        apply loop_gen hx (fun j : Nat => (mkL 63 .junk [(1, .sl 0 0 l.length 2), (4, .ptr 2 0), (5, .ptr 3 0), (6, .int .i64 i), (7, .ros q (flatE (intE .u8) (blockL bs i))), (8, .ptr 5 0), (15, .sl 6 0 (nb + 1) 1), (16, .int .i64 ((nb : Int) + 1)), (17, .int .i64 i), (24, .sl 0 0 l.length 2), (25, .int .i64 l.length), (26, .int .i64 j)],
            [some (.cells (flatE spanE l ++ flatE spanE G) ex), none, some (.cells [.int .i64 0, .nils] true), some (.cells [.int .i64 bs.length, .nils] true), none, some (.cells (if hitAny (l.take j) i = true then [.bool true, .nils, .int .u64 (hash (blockL bs i))] else [.bool false, .ros q (flatE (intE .u8) (blockL bs i)), .int .u64 0]) true), some (.cells (flatE rosB (cutL bs)) false), none, none, none, none]))
          (fun j => j ≤ l.length) (fun j => l.length - j) 0
        case hI => simp
        case hq => omega
        case ht => cases ex <;> simp -implicitDefEqProofs [liveOf, coldOf, hitAny]
        case round =>
          rintro j hj _
          clear hx
          by_cases hltj : j < l.length
          · have hlj2 : (j : Int) < (l.length : Int) := by omega
            have e5 : addI .i64 (j : Int) 1 = (j : Int) + 1 := addI_i64 (by omega) (by omega)
            have ms := at_spans (l ++ G) j (by simp; omega)
            rw [flatE_append, List.getElem_append_left hltj] at ms
            have hin := hw _ (List.getElem_mem hltj)
            have hsu := hitAny_succ l i j hltj
            generalize l[j] = s at *
            have h3 : 2 ≤ l.length * 2 + G.length * 2 - j * 2 := by omega
            have e6 : addI .i64 s.off s.len = s.off + s.len := addI_i64 (by omega) (by omega)
            cases hold : hitAny (l.take j) i with
            | true =>
              by_cases g1 : 0 < s.len
              · by_cases g2 : s.off < 64 * (i : Int) + 64
                · by_cases g3 : 64 * (i : Int) < s.off + s.len
                  · have hht : hit i s = true := by simp [hit, g1, g2, g3]
                    simp -implicitDefEqProofs [hltj, hlj2, e5, ms, h3, e3, e4, e6, ch, g1, g2, g3, hold]
                    exact rnd_next (j + 1) hltj (by omega) (by cases ex <;> simp -implicitDefEqProofs [liveOf, coldOf, hsu, hold, hht])
                  · have hht : hit i s = false := by simp [hit, g3]
                    simp -implicitDefEqProofs [hltj, hlj2, e5, ms, h3, e3, e4, e6, ch, g1, g2, g3, hold]
                    exact rnd_next (j + 1) hltj (by omega) (by cases ex <;> simp -implicitDefEqProofs [liveOf, coldOf, hsu, hold, hht])
                · have hht : hit i s = false := by simp [hit, g2]
                  simp -implicitDefEqProofs [hltj, hlj2, e5, ms, h3, e3, e4, e6, ch, g1, g2, hold]
                  exact rnd_next (j + 1) hltj (by omega) (by cases ex <;> simp -implicitDefEqProofs [liveOf, coldOf, hsu, hold, hht])
              · have hht : hit i s = false := by simp [hit, g1]
                simp -implicitDefEqProofs [hltj, hlj2, e5, ms, h3, e3, e4, e6, ch, g1, hold]
                exact rnd_next (j + 1) hltj (by omega) (by cases ex <;> simp -implicitDefEqProofs [liveOf, coldOf, hsu, hold, hht])
            | false =>
              by_cases g1 : 0 < s.len
              · by_cases g2 : s.off < 64 * (i : Int) + 64
                · by_cases g3 : 64 * (i : Int) < s.off + s.len
                  · have hht : hit i s = true := by simp [hit, g1, g2, g3]
                    simp -implicitDefEqProofs [hltj, hlj2, e5, ms, h3, e3, e4, e6, ch, g1, g2, g3, hold]
                    exact rnd_next (j + 1) hltj (by omega) (by cases ex <;> simp -implicitDefEqProofs [liveOf, coldOf, hsu, hold, hht])
                  · have hht : hit i s = false := by simp [hit, g3]
                    simp -implicitDefEqProofs [hltj, hlj2, e5, ms, h3, e3, e4, e6, ch, g1, g2, g3, hold]
                    exact rnd_next (j + 1) hltj (by omega) (by cases ex <;> simp -implicitDefEqProofs [liveOf, coldOf, hsu, hold, hht])
                · have hht : hit i s = false := by simp [hit, g2]
                  simp -implicitDefEqProofs [hltj, hlj2, e5, ms, h3, e3, e4, e6, ch, g1, g2, hold]
                  exact rnd_next (j + 1) hltj (by omega) (by cases ex <;> simp -implicitDefEqProofs [liveOf, coldOf, hsu, hold, hht])
              · have hht : hit i s = false := by simp [hit, g1]
                simp -implicitDefEqProofs [hltj, hlj2, e5, ms, h3, e3, e4, e6, ch, g1, hold]
                exact rnd_next (j + 1) hltj (by omega) (by cases ex <;> simp -implicitDefEqProofs [liveOf, coldOf, hsu, hold, hht])
          · have hj' : j = l.length := by omega
            subst hj'
            have hlj2 : ¬ (l.length : Int) < (l.length : Int) := by omega
            rw [List.take_length]
            cases hh : hitAny l i with
            | true =>
              simp -implicitDefEqProofs [hltj, hlj2, e2, hh]
              exact rnd_next (i + 1, [] ++ [pieceOf zb bs (hitAny l) i]) ⟨by simp only; omega, hs.symm⟩ (by simp only; omega) (by cases ex <;> simp -implicitDefEqProofs [liveOf, coldOf, pieceE_f, pieceOf, hh, hbl0, hem])
            | false =>
              simp -implicitDefEqProofs [hltj, hlj2, e2, hh]
              exact rnd_next (i + 1, [] ++ [pieceOf zb bs (hitAny l) i]) ⟨by simp only; omega, hs.symm⟩ (by simp only; omega) (by cases ex <;> simp -implicitDefEqProofs [liveOf, coldOf, pieceE_f, pieceOf, hh, hbl0, hem])
      | succ r =>
        have hb : (r + 1 + 1) * 40 ≤ 140737488355328 := by omega
        simp -implicitDefEqProofs [hlt, hlt2, hd, hQ0]
        generalize hx : evLoopC _ _ _ _ _ _ _ _ _ _ = R
        apply loop_gen hx (fun j : Nat => (mkL 63 .junk [(1, .sl 0 0 l.length 2), (4, .ptr 2 0), (5, .ptr 3 0), (6, .int .i64 i), (7, .ros q (flatE (intE .u8) (blockL bs i))), (8, .ptr 5 0), (15, .sl 6 0 (nb + 1) 1), (16, .int .i64 ((nb : Int) + 1)), (17, .int .i64 i), (24, .sl 0 0 l.length 2), (25, .int .i64 l.length), (26, .int .i64 j)],
            [some (.cells (flatE spanE l ++ flatE spanE G) ex), none, some (.cells [.int .i64 0, .nils] true), some (.cells [.int .i64 bs.length, .sl 9 0 (r + 1) 3] true), none, some (.cells (if hitAny (l.take j) i = true then [.bool true, .nils, .int .u64 (hash (blockL bs i))] else [.bool false, .ros q (flatE (intE .u8) (blockL bs i)), .int .u64 0]) true), some (.cells (flatE rosB (cutL bs)) false), none, none, some (.cells (flatE pieceE Q) false), none]))
          (fun j => j ≤ l.length) (fun j => l.length - j) 0
        case hI => simp
        case hq => omega
        case ht => cases ex <;> simp -implicitDefEqProofs [liveOf, coldOf, hitAny, hQ0]
        case round =>
          rintro j hj _
          clear hx
          by_cases hltj : j < l.length
          · have hlj2 : (j : Int) < (l.length : Int) := by omega
            have e5 : addI .i64 (j : Int) 1 = (j : Int) + 1 := addI_i64 (by omega) (by omega)
            have ms := at_spans (l ++ G) j (by simp; omega)
            rw [flatE_append, List.getElem_append_left hltj] at ms
            have hin := hw _ (List.getElem_mem hltj)
            have hsu := hitAny_succ l i j hltj
            generalize l[j] = s at *
            have h3 : 2 ≤ l.length * 2 + G.length * 2 - j * 2 := by omega
            have e6 : addI .i64 s.off s.len = s.off + s.len := addI_i64 (by omega) (by omega)
            cases hold : hitAny (l.take j) i with
            | true =>
              by_cases g1 : 0 < s.len
              · by_cases g2 : s.off < 64 * (i : Int) + 64
                · by_cases g3 : 64 * (i : Int) < s.off + s.len
                  · have hht : hit i s = true := by simp [hit, g1, g2, g3]
                    simp -implicitDefEqProofs [hltj, hlj2, e5, ms, h3, e3, e4, e6, ch, g1, g2, g3, hold]
                    exact rnd_next (j + 1) hltj (by omega) (by cases ex <;> simp -implicitDefEqProofs [liveOf, coldOf, hsu, hold, hht])
                  · have hht : hit i s = false := by simp [hit, g3]
                    simp -implicitDefEqProofs [hltj, hlj2, e5, ms, h3, e3, e4, e6, ch, g1, g2, g3, hold]
                    exact rnd_next (j + 1) hltj (by omega) (by cases ex <;> simp -implicitDefEqProofs [liveOf, coldOf, hsu, hold, hht])
                · have hht : hit i s = false := by simp [hit, g2]
                  simp -implicitDefEqProofs [hltj, hlj2, e5, ms, h3, e3, e4, e6, ch, g1, g2, hold]
                  exact rnd_next (j + 1) hltj (by omega) (by cases ex <;> simp -implicitDefEqProofs [liveOf, coldOf, hsu, hold, hht])
              · have hht : hit i s = false := by simp [hit, g1]
                simp -implicitDefEqProofs [hltj, hlj2, e5, ms, h3, e3, e4, e6, ch, g1, hold]
                exact rnd_next (j + 1) hltj (by omega) (by cases ex <;> simp -implicitDefEqProofs [liveOf, coldOf, hsu, hold, hht])
            | false =>
              by_cases g1 : 0 < s.len
              · by_cases g2 : s.off < 64 * (i : Int) + 64
                · by_cases g3 : 64 * (i : Int) < s.off + s.len
                  · have hht : hit i s = true := by simp [hit, g1, g2, g3]
                    simp -implicitDefEqProofs [hltj, hlj2, e5, ms, h3, e3, e4, e6, ch, g1, g2, g3, hold]
                    exact rnd_next (j + 1) hltj (by omega) (by cases ex <;> simp -implicitDefEqProofs [liveOf, coldOf, hsu, hold, hht])
                  · have hht : hit i s = false := by simp [hit, g3]
                    simp -implicitDefEqProofs [hltj, hlj2, e5, ms, h3, e3, e4, e6, ch, g1, g2, g3, hold]
                    exact rnd_next (j + 1) hltj (by omega) (by cases ex <;> simp -implicitDefEqProofs [liveOf, coldOf, hsu, hold, hht])
                · have hht : hit i s = false := by simp [hit, g2]
                  simp -implicitDefEqProofs [hltj, hlj2, e5, ms, h3, e3, e4, e6, ch, g1, g2, hold]
                  exact rnd_next (j + 1) hltj (by omega) (by cases ex <;> simp -implicitDefEqProofs [liveOf, coldOf, hsu, hold, hht])
              · have hht : hit i s = false := by simp [hit, g1]
                simp -implicitDefEqProofs [hltj, hlj2, e5, ms, h3, e3, e4, e6, ch, g1, hold]
                exact rnd_next (j + 1) hltj (by omega) (by cases ex <;> simp -implicitDefEqProofs [liveOf, coldOf, hsu, hold, hht])
          · have hj' : j = l.length := by omega
            subst hj'
            have hlj2 : ¬ (l.length : Int) < (l.length : Int) := by omega
            rw [List.take_length]
            cases hh : hitAny l i with
            | true =>
              simp -implicitDefEqProofs [hltj, hlj2, e2, hh, hQ0, hb]
              exact rnd_next (i + 1, Q ++ [pieceOf zb bs (hitAny l) i]) ⟨by simp only; omega, hs.symm⟩ (by simp only; omega) (by cases ex <;> simp -implicitDefEqProofs [liveOf, coldOf, pieceE_f, pieceOf, hh, hbl0, hem, hQ0])
            | false =>
              simp -implicitDefEqProofs [hltj, hlj2, e2, hh, hQ0, hb]
              exact rnd_next (i + 1, Q ++ [pieceOf zb bs (hitAny l) i]) ⟨by simp only; omega, hs.symm⟩ (by simp only; omega) (by cases ex <;> simp -implicitDefEqProofs [liveOf, coldOf, pieceE_f, pieceOf, hh, hbl0, hem, hQ0])
    · have hi' : i = nb + 1 := by omega
      subst hi'
      have hlt2 : ¬ ((nb : Int) + 1 < (nb : Int) + 1) := by omega
      have hfin : Q = piecesOf zb bs (hitAny l) := by rw [hQ, piecesOf, hnb]
      rw [← hfin]
      cases ex <;> simp -implicitDefEqProofs [hlt2, hQl]

theorem blackedG_none (zb : Bool) (l G : List Span) (ex : Bool) (hl : l.length ≤ 4096) (hw : Within 0 l) {k : Nat} (hk : 10000 < k) :
    evF Try.prog Γ (k + 1) 15 [roV zb 0 [], .sl 0 0 l.length 2] [some (.cells (flatE spanE (l ++ G)) ex)] = some (.agg [.int .i64 0, .sl 1 0 1 3], [some (.cells (flatE spanE (l ++ G)) ex), some (.cells (flatE pieceE [⟨false, zb, [], 0⟩]) false)]) := by
  obtain ⟨k, rfl⟩ : ∃ j, k = j + 1 := ⟨k - 1, by omega⟩
  have cc := cut_nil zb (k := k) (by omega)
  simp at cc
  rw [b15 (fun _ _ => rfl) _ _ (by simp)]
  simp -implicitDefEqProofs [cc]
  generalize hx : evLoopC _ _ _ _ _ _ _ _ _ _ = R
  apply loop_gen hx (fun a : Nat => match a with
      | 0 => (mkL 63 .junk [(1, .sl 0 0 l.length 2), (4, .ptr 2 0), (5, .ptr 3 0), (15, .sl 4 0 1 1), (16, .int .i64 1), (17, .int .i64 0)],
        [some (.cells (flatE spanE l ++ flatE spanE G) ex), none, some (.cells [.int .i64 0, .nils] true), some (.cells [.int .i64 0, .nils] true), some (.cells [roV zb 0 []] false), none, none])
      | _ => (mkL 63 .junk [(1, .sl 0 0 l.length 2), (4, .ptr 2 0), (5, .ptr 3 0), (15, .sl 4 0 1 1), (16, .int .i64 1), (17, .int .i64 1)],
        [some (.cells (flatE spanE l ++ flatE spanE G) ex), none, some (.cells [.int .i64 0, .nils] true), some (.cells [.int .i64 0, .sl 6 0 1 3] true), some (.cells [roV zb 0 []] false), none, some (.cells (flatE pieceE [⟨false, zb, [], 0⟩]) false)]))
    (fun a => a ≤ 1) (fun a => 1 - a) 0
  case hI => simp
  case hq => omega
  case ht => cases ex <;> simp -implicitDefEqProofs [liveOf, coldOf]
  case round =>
    intro a ha _
    clear hx
    have e2 : addI .i64 0 1 = 1 := addI_i64 (by omega) (by omega)
    rcases (by omega : a = 0 ∨ a = 1) with rfl | rfl
    · simp -implicitDefEqProofs
      generalize hx : evLoopC _ _ _ _ _ _ _ _ _ _ = R
      apply loop_gen hx (fun j : Nat => (mkL 63 .junk [(1, .sl 0 0 l.length 2), (4, .ptr 2 0), (5, .ptr 3 0), (6, .int .i64 0), (7, roV zb 0 []), (8, .ptr 5 0), (15, .sl 6 0 1 1), (16, .int .i64 1), (17, .int .i64 0), (24, .sl 0 0 l.length 2), (25, .int .i64 l.length), (26, .int .i64 j)],
          [some (.cells (flatE spanE l ++ flatE spanE G) ex), none, some (.cells [.int .i64 0, .nils] true), some (.cells [.int .i64 0, .nils] true), none, some (.cells [.bool false, roV zb 0 [], .int .u64 0] true), some (.cells [roV zb 0 []] false), none, none, none, none]))
        (fun j => j ≤ l.length) (fun j => l.length - j) 0
      case hI => simp
      case hq => omega
      case ht => cases ex <;> simp -implicitDefEqProofs [liveOf, coldOf]
      case round =>
        rintro j hj _
        clear hx
        by_cases hltj : j < l.length
        · have hlj2 : (j : Int) < (l.length : Int) := by omega
          have e5 : addI .i64 (j : Int) 1 = (j : Int) + 1 := addI_i64 (by omega) (by omega)
          have ms := at_spans (l ++ G) j (by simp; omega)
          rw [flatE_append, List.getElem_append_left hltj] at ms
          have hin := hw _ (List.getElem_mem hltj)
          generalize l[j] = s at *
          have h3 : 2 ≤ l.length * 2 + G.length * 2 - j * 2 := by omega
          have g1 : ¬ 0 < s.len := by omega
          simp -implicitDefEqProofs [hltj, hlj2, e5, ms, h3, g1]
          exact rnd_next (j + 1) hltj (by omega) (by cases ex <;> simp -implicitDefEqProofs [liveOf, coldOf])
        · have hj' : j = l.length := by omega
          subst hj'
          have hlj2 : ¬ (l.length : Int) < (l.length : Int) := by omega
          simp -implicitDefEqProofs [hltj, hlj2, e2]
          exact rnd_next 1 (by omega) (by omega) (by cases ex <;> simp -implicitDefEqProofs [liveOf, coldOf, pieceE_f])
    · cases ex <;> simp -implicitDefEqProofs [pieceE_f]
end Go.Ev.Try


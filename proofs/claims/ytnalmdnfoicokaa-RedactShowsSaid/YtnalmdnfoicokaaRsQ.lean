/-
  THE REDACT SEAT: Make, Blacked, Hide in one statement each (own work).
-/
import Derived.Test.YtnalmdnfoicokaaRsP
import Derived.Test.YtnalmdnfoicokaaRsJ
import Derived.Test.YtnalmdnfoicokaaRsN
import Derived.Test.YtnalmdnfoicokaaRmJ
set_option linter.unusedSimpArgs false
set_option linter.unusedVariables false
set_option maxRecDepth 100000
set_option maxHeartbeats 1000000
namespace Go.Ev.Try
open Go Go.Ev Go.Proofs

theorem pieces_none (zb : Bool) (T : Nat → Bool) (h : T 0 = false) : piecesOf zb [] T = [⟨false, zb, [], 0⟩] := by
  show [pieceOf zb [] T 0] = _
  unfold pieceOf
  rw [h]
  cases zb <;> rfl
theorem make_any_g (bs : List Int) (zb : Bool) (l G : List Span) (ex : Bool) (hn : bs.length ≤ 65536) (hl : l.length ≤ 4096) (hw : Within bs.length l) {k : Nat} (hk : 200000 < k) :
    evF Try.prog Γ (k + 1) 8 [roV zb bs.length (flatE (intE .u8) bs), .sl 0 0 l.length 2] [some (.cells (flatE spanE (l ++ G)) ex)] = some (.tup [.agg [.int .i64 bs.length, .sl 1 0 (blocksN bs.length) 3], .int .i64 0], [some (.cells (flatE spanE (l ++ G)) ex), some (.cells (flatE pieceE (piecesOf zb bs (touched l bs.length))) false)]) := by
  by_cases h : bs = []
  · subst h
    rw [show touched l ([] : List Int).length = touched l 0 from rfl, pieces_none zb _ (touched_zero l 0)]
    exact make_none_g zb l G ex hl hw hk
  · exact make_rg bs zb l G ex (List.length_pos_iff.2 h) hn hl hw hk
theorem make_any_n (bs : List Int) (zb : Bool) (hn : bs.length ≤ 65536) {k : Nat} (hk : 200000 < k) :
    evF Try.prog Γ (k + 1) 8 [roV zb bs.length (flatE (intE .u8) bs), .nils] [] = some (.tup [.agg [.int .i64 bs.length, .sl 0 0 (blocksN bs.length) 3], .int .i64 0], [some (.cells (flatE pieceE (piecesOf zb bs (touched [] bs.length))) false)]) := by
  by_cases h : bs = []
  · subst h
    rw [show touched [] ([] : List Int).length = touched [] 0 from rfl, pieces_none zb _ (touched_zero [] 0)]
    exact make_none zb [] true (by simp) (fun s hs => by simp at hs) hk
  · exact make_rr bs zb [] true (List.length_pos_iff.2 h) hn (by simp) (fun s hs => by simp at hs) hk
theorem hitL (l : List Span) (bs : List Int) (zb : Bool) (hn : bs.length ≤ 65536) (hw : Within bs.length l) : piecesOf zb bs (hitAny l) = piecesOf zb bs (touched l bs.length) := by
  unfold piecesOf
  refine List.map_congr_left fun i hi => ?_
  unfold pieceOf
  rw [hit_touched l bs.length hn hw i (List.mem_range.1 hi)]
theorem black_any_g (bs : List Int) (zb : Bool) (hzb : zb = true → bs = []) (l G : List Span) (ex : Bool) (hn : bs.length ≤ 65536) (hl : l.length ≤ 4096) (hw : Within bs.length l) {k : Nat} (hk : 10000 < k) :
    evF Try.prog Γ (k + 1) 15 [roV zb bs.length (flatE (intE .u8) bs), .sl 0 0 l.length 2] [some (.cells (flatE spanE (l ++ G)) ex)] = some (.agg [.int .i64 bs.length, .sl 1 0 (blocksN bs.length) 3], [some (.cells (flatE spanE (l ++ G)) ex), some (.cells (flatE pieceE (piecesOf zb bs (touched l bs.length))) false)]) := by
  by_cases h : bs = []
  · subst h
    rw [show touched l ([] : List Int).length = touched l 0 from rfl, pieces_none zb _ (touched_zero l 0)]
    exact blackedG_none zb l G ex hl hw hk
  · have hz : zb = false := by cases zb with | true => exact absurd (hzb rfl) h | false => rfl
    rw [← hitL l bs zb hn hw, hz]
    exact blackedG_ok bs false l G ex (List.length_pos_iff.2 h) hn hl hw hk
theorem black_any_n (bs : List Int) (zb : Bool) (hzb : zb = true → bs = []) (hn : bs.length ≤ 65536) {k : Nat} (hk : 10000 < k) :
    evF Try.prog Γ (k + 1) 15 [roV zb bs.length (flatE (intE .u8) bs), .nils] [] = some (.agg [.int .i64 bs.length, .sl 0 0 (blocksN bs.length) 3], [some (.cells (flatE pieceE (piecesOf zb bs (touched [] bs.length))) false)]) := by
  have hw : Within bs.length [] := fun s hs => by simp at hs
  by_cases h : bs = []
  · subst h
    rw [show touched [] ([] : List Int).length = touched [] 0 from rfl, pieces_none zb _ (touched_zero [] 0)]
    exact blackedR_none zb [] true (by simp) hw hk
  · have hz : zb = false := by cases zb with | true => exact absurd (hzb rfl) h | false => rfl
    rw [← hitL [] bs zb hn hw, hz]
    exact blackedR_ok bs false [] true (List.length_pos_iff.2 h) hn (by simp) hw hk
theorem hide_g (n : Nat) (ps : List Piece) (c : Nat) (l R : List Span) (ex : Bool) (hn : n ≤ 65536) (hc : blocksN n = c + 1) (hp : ps.length = c + 1) (ap : allOk n ps = true) (hl : l.length ≤ 4096) (hw : Within n l) {k : Nat} (hk : 200000 < k) :
    evF Try.prog Γ (k + 1) 24 [.agg [.int .i64 n, .sl 0 0 (c + 1) 3], .sl 1 0 l.length 2] [some (.cells (flatE pieceE ps) false), some (.cells (flatE spanE (l ++ R)) ex)] = some (.tup [.agg [.int .i64 n, .sl 2 0 (c + 1) 3], .int .i64 0], [some (.cells (flatE pieceE ps) false), some (.cells (flatE spanE (l ++ R)) ex), some (.cells (flatE pieceE (hideL ps (touched l n))) false)]) := by
  cases ex with
  | true => exact hide_gt n ps c l R hn hc hp ap hl hw hk
  | false => exact hide_gf n ps c l R hn hc hp ap hl hw hk
end Go.Ev.Try

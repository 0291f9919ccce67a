/-
  THE REDACT SEAT: the law RedactMakes walked (own work, printed by wip/tools/gen_makes.py).
-/
import Derived.Test.YtnalmdnfoicokaaRmD
import Derived.Test.YtnalmdnfoicokaaRmE
import Derived.Test.YtnalmdnfoicokaaRmJ
import Derived.Test.YtnalmdnfoicokaaRdV
set_option linter.unusedSimpArgs false
set_option linter.unusedVariables false
set_option maxRecDepth 100000
set_option maxHeartbeats 16000000
namespace Go.Ev.Try
open Go Go.Ev Go.Proofs

theorem black_pieces (zb : Bool) (bs : List Int) (l : List Span) (hn : bs.length ≤ 65536) (hw : Within bs.length l) : piecesOf zb bs (hitAny l) = piecesOf zb bs (touched l bs.length) := by
  unfold piecesOf
  refine List.map_congr_left fun i hi => ?_
  have := hit_touched l bs.length hn hw i (List.mem_range.1 hi)
  unfold pieceOf
  rw [this]
theorem within_of (l : List Span) (n : Nat) (hn : n ≤ 65536) (h : ∀ s ∈ l, insideB s n = true) : Within n l := fun s hs => by
  obtain ⟨⟨h1, h2, h3, h4⟩, h5⟩ := (inside_iff s n hn).1 (h s hs)
  exact ⟨h1, h2, h5⟩
theorem rootR_ok (n : Nat) (ps : List Piece) (zp : Bool) (h : checkR n ps = 0) : n ≤ 65536 ∧ ps.length = blocksN n ∧ allOk n ps = true := by
  unfold checkR at h
  split at h
  · cases h
  · split at h
    · rename_i h1 h2; refine ⟨by omega, by simpa using h2⟩
    · cases h

theorem makes_a_x (bs : List Int) (zb : Bool) (hzb : zb = true → bs = []) (l : List Span) (zl : Bool) (size : Int) (ps : List Piece) (zp : Bool) (root : Int) (hbl : bs.length ≤ 9223372036854775807) (hll : l.length ≤ 9223372036854775807) (hpl : ps.length ≤ 9223372036854775807) (hpb : ∀ p ∈ ps, p.bs.length ≤ 9223372036854775807) (hA : 65536 < bs.length ∨ 4096 < l.length) (hx : checkR size ps = 0) {k : Nat} (hk : 400000 + l.length < k) :
    evF Try.prog Γ (k + 1) 4 [roV zb bs.length (flatE (intE .u8) bs), roV zl l.length (flatE spanE l), .agg [.int .i64 size, roV zp ps.length (flatE pieceE ps)], .int .u64 root] [] = some (.bool true, []) := by
  obtain ⟨k, rfl⟩ : ∃ j, k = j + 2 := ⟨k - 2, by omega⟩
  have cbl := blacked16 (k := k + 1) (by omega)
  have cef := exFault_ok size ps zp hpl (k := k + 1) (by omega)
  have cec := exCheck_ok size ps zp hpb hpl (k := k + 1) (by omega)
  obtain ⟨n, rfl⟩ : ∃ n : Nat, size = n := ⟨size.toNat, by unfold checkR at hx; split at hx; cases hx; omega⟩
  obtain ⟨hn0, hpn, hpa⟩ := rootR_ok n ps zp hx
  have hB0 : blocksN n ≤ 1024 := by unfold blocksN; omega
  have hB1 := blocksN_pos n
  have cro := root_ok n ps zp hn0 hpn hpa (k := k + 1) (by omega)
  have crf := rootOf_ok ps.length ps zp (by omega) (Nat.le_refl _) (by omega) (allOk_len hpa) (k := k + 1) (by omega)
  have cho := holds_ok n ps zp _ _ root (root_ok n ps zp hn0 hpn hpa (k := k) (by omega))
  rw [hx] at cef cec
  simp at cho
  generalize rootL (ps.map hashOf) = rr at *
  have csp := samePieces_ok 0 0 [] [] true true (by simp) (k := k + 1) (by simp only [List.length_nil]; omega)
  have hs0 : sameAll [] [] = true := rfl
  rw [hs0] at csp
  simp at csp
  have cmk := make_large bs zb l zl hA (k := k + 1)
  rw [b4 (fun _ _ => rfl) _ _ (by simp)]
  by_cases hA1 : 65536 < bs.length
  · have hA2 : (65536 : Int) < bs.length := by omega
    simp -implicitDefEqProofs [cmk, hA1, hA2]
    generalize hx : evLoopC _ _ _ _ _ _ _ _ _ _ = R
    apply loop_gen hx (fun j : Nat => (mkL 132 .junk [(0, roV zb bs.length (flatE (intE .u8) bs)), (1, roV zl l.length (flatE spanE l)), (3, .int .u64 root), (6, .ptr 2 0), (9, .ptr 3 0), (10, .int .i64 2), (11, .int .i64 2), (36, roV zl l.length (flatE spanE l)), (37, .int .i64 l.length), (38, .int .i64 j)],
        [none, none, some (.cells [.int .i64 (n : Int), roV zp ps.length (flatE pieceE ps)] true), some (.cells [.int .i64 0, .nils] true), none, none, none]))
      (fun j => j ≤ l.length) (fun j => l.length - j) 0
    case hI => simp
    case hq => omega
    case ht => simp -implicitDefEqProofs [liveOf, coldOf]
    case round =>
      rintro j hj _
      clear hx
      by_cases hlt : j < l.length
      · have hlt2 : (j : Int) < (l.length : Int) := by omega
        have e2 : addI .i64 (j : Int) 1 = (j : Int) + 1 := addI_i64 (by omega) (by omega)
        have ms := at_spans l j hlt
        have h3 : 2 ≤ l.length * 2 - j * 2 := by omega
        simp -implicitDefEqProofs [hlt, hlt2, e2, ms, h3]
        exact rnd_next (j + 1) hlt (by omega) (by simp -implicitDefEqProofs [liveOf, coldOf])
      · have hj' : j = l.length := by omega
        subst hj'
        have hlt2 : ¬ (l.length : Int) < (l.length : Int) := by omega
        by_cases hrr : rr = root
        · simp -implicitDefEqProofs [hlt, hlt2, cbl, csp, cef, cec, cro, crf, cho, hrr]
        · simp -implicitDefEqProofs [hlt, hlt2, cbl, csp, cef, cec, cro, crf, cho, hrr]
  · have hA2 : ¬ (65536 : Int) < bs.length := by omega
    have hA3 : 4096 < l.length := by omega
    have hA4 : (4096 : Int) < l.length := by omega
    simp -implicitDefEqProofs [cmk, hA1, hA2, hA3, hA4]
    generalize hx : evLoopC _ _ _ _ _ _ _ _ _ _ = R
    apply loop_gen hx (fun j : Nat => (mkL 132 .junk [(0, roV zb bs.length (flatE (intE .u8) bs)), (1, roV zl l.length (flatE spanE l)), (3, .int .u64 root), (6, .ptr 2 0), (9, .ptr 3 0), (10, .int .i64 2), (11, .int .i64 2), (36, roV zl l.length (flatE spanE l)), (37, .int .i64 l.length), (38, .int .i64 j)],
        [none, none, some (.cells [.int .i64 (n : Int), roV zp ps.length (flatE pieceE ps)] true), some (.cells [.int .i64 0, .nils] true), none, none, none]))
      (fun j => j ≤ l.length) (fun j => l.length - j) 0
    case hI => simp
    case hq => omega
    case ht => simp -implicitDefEqProofs [liveOf, coldOf]
    case round =>
      rintro j hj _
      clear hx
      by_cases hlt : j < l.length
      · have hlt2 : (j : Int) < (l.length : Int) := by omega
        have e2 : addI .i64 (j : Int) 1 = (j : Int) + 1 := addI_i64 (by omega) (by omega)
        have ms := at_spans l j hlt
        have h3 : 2 ≤ l.length * 2 - j * 2 := by omega
        simp -implicitDefEqProofs [hlt, hlt2, e2, ms, h3]
        exact rnd_next (j + 1) hlt (by omega) (by simp -implicitDefEqProofs [liveOf, coldOf])
      · have hj' : j = l.length := by omega
        subst hj'
        have hlt2 : ¬ (l.length : Int) < (l.length : Int) := by omega
        by_cases hrr : rr = root
        · simp -implicitDefEqProofs [hlt, hlt2, cbl, csp, cef, cec, cro, crf, cho, hrr]
        · simp -implicitDefEqProofs [hlt, hlt2, cbl, csp, cef, cec, cro, crf, cho, hrr]

theorem makes_a_y (bs : List Int) (zb : Bool) (hzb : zb = true → bs = []) (l : List Span) (zl : Bool) (size : Int) (ps : List Piece) (zp : Bool) (root : Int) (hbl : bs.length ≤ 9223372036854775807) (hll : l.length ≤ 9223372036854775807) (hpl : ps.length ≤ 9223372036854775807) (hpb : ∀ p ∈ ps, p.bs.length ≤ 9223372036854775807) (hA : 65536 < bs.length ∨ 4096 < l.length) (hx : checkR size ps ≠ 0) {k : Nat} (hk : 400000 + l.length < k) :
    evF Try.prog Γ (k + 1) 4 [roV zb bs.length (flatE (intE .u8) bs), roV zl l.length (flatE spanE l), .agg [.int .i64 size, roV zp ps.length (flatE pieceE ps)], .int .u64 root] [] = some (.bool true, []) := by
  obtain ⟨k, rfl⟩ : ∃ j, k = j + 2 := ⟨k - 2, by omega⟩
  have cbl := blacked16 (k := k + 1) (by omega)
  have cef := exFault_ok size ps zp hpl (k := k + 1) (by omega)
  have cec := exCheck_ok size ps zp hpb hpl (k := k + 1) (by omega)
  have cro := root_bad size ps zp hpb hpl hx (k := k + 1) (by omega)
  have cho := holds_ok size ps zp _ _ root (root_bad size ps zp hpb hpl hx (k := k) (by omega))
  generalize checkR size ps = ee at *
  simp [hx] at cho
  have csp := samePieces_ok 0 0 [] [] true true (by simp) (k := k + 1) (by simp only [List.length_nil]; omega)
  have hs0 : sameAll [] [] = true := rfl
  rw [hs0] at csp
  simp at csp
  have cmk := make_large bs zb l zl hA (k := k + 1)
  rw [b4 (fun _ _ => rfl) _ _ (by simp)]
  by_cases hA1 : 65536 < bs.length
  · have hA2 : (65536 : Int) < bs.length := by omega
    simp -implicitDefEqProofs [cmk, hA1, hA2]
    generalize hx : evLoopC _ _ _ _ _ _ _ _ _ _ = R
    apply loop_gen hx (fun j : Nat => (mkL 132 .junk [(0, roV zb bs.length (flatE (intE .u8) bs)), (1, roV zl l.length (flatE spanE l)), (3, .int .u64 root), (6, .ptr 2 0), (9, .ptr 3 0), (10, .int .i64 2), (11, .int .i64 2), (36, roV zl l.length (flatE spanE l)), (37, .int .i64 l.length), (38, .int .i64 j)],
        [none, none, some (.cells [.int .i64 size, roV zp ps.length (flatE pieceE ps)] true), some (.cells [.int .i64 0, .nils] true), none, none, none]))
      (fun j => j ≤ l.length) (fun j => l.length - j) 0
    case hI => simp
    case hq => omega
    case ht => simp -implicitDefEqProofs [liveOf, coldOf]
    case round =>
      rintro j hj _
      clear hx
      by_cases hlt : j < l.length
      · have hlt2 : (j : Int) < (l.length : Int) := by omega
        have e2 : addI .i64 (j : Int) 1 = (j : Int) + 1 := addI_i64 (by omega) (by omega)
        have ms := at_spans l j hlt
        have h3 : 2 ≤ l.length * 2 - j * 2 := by omega
        simp -implicitDefEqProofs [hlt, hlt2, e2, ms, h3]
        exact rnd_next (j + 1) hlt (by omega) (by simp -implicitDefEqProofs [liveOf, coldOf])
      · have hj' : j = l.length := by omega
        subst hj'
        have hlt2 : ¬ (l.length : Int) < (l.length : Int) := by omega
        simp -implicitDefEqProofs [hlt, hlt2, cbl, csp, cef, cec, cro, cho, hx]
  · have hA2 : ¬ (65536 : Int) < bs.length := by omega
    have hA3 : 4096 < l.length := by omega
    have hA4 : (4096 : Int) < l.length := by omega
    simp -implicitDefEqProofs [cmk, hA1, hA2, hA3, hA4]
    generalize hx : evLoopC _ _ _ _ _ _ _ _ _ _ = R
    apply loop_gen hx (fun j : Nat => (mkL 132 .junk [(0, roV zb bs.length (flatE (intE .u8) bs)), (1, roV zl l.length (flatE spanE l)), (3, .int .u64 root), (6, .ptr 2 0), (9, .ptr 3 0), (10, .int .i64 2), (11, .int .i64 2), (36, roV zl l.length (flatE spanE l)), (37, .int .i64 l.length), (38, .int .i64 j)],
        [none, none, some (.cells [.int .i64 size, roV zp ps.length (flatE pieceE ps)] true), some (.cells [.int .i64 0, .nils] true), none, none, none]))
      (fun j => j ≤ l.length) (fun j => l.length - j) 0
    case hI => simp
    case hq => omega
    case ht => simp -implicitDefEqProofs [liveOf, coldOf]
    case round =>
      rintro j hj _
      clear hx
      by_cases hlt : j < l.length
      · have hlt2 : (j : Int) < (l.length : Int) := by omega
        have e2 : addI .i64 (j : Int) 1 = (j : Int) + 1 := addI_i64 (by omega) (by omega)
        have ms := at_spans l j hlt
        have h3 : 2 ≤ l.length * 2 - j * 2 := by omega
        simp -implicitDefEqProofs [hlt, hlt2, e2, ms, h3]
        exact rnd_next (j + 1) hlt (by omega) (by simp -implicitDefEqProofs [liveOf, coldOf])
      · have hj' : j = l.length := by omega
        subst hj'
        have hlt2 : ¬ (l.length : Int) < (l.length : Int) := by omega
        simp -implicitDefEqProofs [hlt, hlt2, cbl, csp, cef, cec, cro, cho, hx]

theorem makes_b_x (bs : List Int) (zb : Bool) (hzb : zb = true → bs = []) (l : List Span) (zl : Bool) (size : Int) (ps : List Piece) (zp : Bool) (root : Int) (hbl : bs.length ≤ 9223372036854775807) (hll : l.length ≤ 9223372036854775807) (hpl : ps.length ≤ 9223372036854775807) (hpb : ∀ p ∈ ps, p.bs.length ≤ 9223372036854775807) (hn : bs.length ≤ 65536) (hl : l.length ≤ 4096) (hB : ¬ ∀ s ∈ l, insideB s bs.length = true) (hx : checkR size ps = 0) {k : Nat} (hk : 400000 + l.length < k) :
    evF Try.prog Γ (k + 1) 4 [roV zb bs.length (flatE (intE .u8) bs), roV zl l.length (flatE spanE l), .agg [.int .i64 size, roV zp ps.length (flatE pieceE ps)], .int .u64 root] [] = some (.bool true, []) := by
  obtain ⟨k, rfl⟩ : ∃ j, k = j + 2 := ⟨k - 2, by omega⟩
  have cbl := blacked16 (k := k + 1) (by omega)
  have cef := exFault_ok size ps zp hpl (k := k + 1) (by omega)
  have cec := exCheck_ok size ps zp hpb hpl (k := k + 1) (by omega)
  obtain ⟨n, rfl⟩ : ∃ n : Nat, size = n := ⟨size.toNat, by unfold checkR at hx; split at hx; cases hx; omega⟩
  obtain ⟨hn0, hpn, hpa⟩ := rootR_ok n ps zp hx
  have hB0 : blocksN n ≤ 1024 := by unfold blocksN; omega
  have hB1 := blocksN_pos n
  have cro := root_ok n ps zp hn0 hpn hpa (k := k + 1) (by omega)
  have crf := rootOf_ok ps.length ps zp (by omega) (Nat.le_refl _) (by omega) (allOk_len hpa) (k := k + 1) (by omega)
  have cho := holds_ok n ps zp _ _ root (root_ok n ps zp hn0 hpn hpa (k := k) (by omega))
  rw [hx] at cef cec
  simp at cho
  generalize rootL (ps.map hashOf) = rr at *
  have csp := samePieces_ok 0 0 [] [] true true (by simp) (k := k + 1) (by simp only [List.length_nil]; omega)
  have hs0 : sameAll [] [] = true := rfl
  rw [hs0] at csp
  simp at csp
  have cmk := make_bad bs zb l zl hn hl hB (k := k + 1) (by omega)
  have hnl : ¬ 65536 < bs.length := by omega
  have hnl2 : ¬ (65536 : Int) < bs.length := by omega
  have hcl : ¬ (4096 : Int) < l.length := by omega
  have hcl2 : ¬ 4096 < l.length := by omega
  rw [b4 (fun _ _ => rfl) _ _ (by simp)]
  simp -implicitDefEqProofs [cmk, hnl, hnl2, hcl, hcl2]
  generalize hx : evLoopC _ _ _ _ _ _ _ _ _ _ = R
  apply loop_gen hx (fun j : Nat => (mkL 132 .junk [(0, roV zb bs.length (flatE (intE .u8) bs)), (1, roV zl l.length (flatE spanE l)), (3, .int .u64 root), (6, .ptr 2 0), (9, .ptr 3 0), (10, .int .i64 4), (11, .int .i64 (if ∀ s ∈ l.take j, insideB s bs.length = true then 0 else 4)), (36, roV zl l.length (flatE spanE l)), (37, .int .i64 l.length), (38, .int .i64 j)],
      [none, none, some (.cells [.int .i64 (n : Int), roV zp ps.length (flatE pieceE ps)] true), some (.cells [.int .i64 0, .nils] true), none, none, none]))
    (fun j => j ≤ l.length) (fun j => l.length - j) 0
  case hI => simp
  case hq => omega
  case ht => simp -implicitDefEqProofs [liveOf, coldOf]
  case round =>
    rintro j hj _
    clear hx
    by_cases hlt : j < l.length
    · have hlt2 : (j : Int) < (l.length : Int) := by omega
      have e2 : addI .i64 (j : Int) 1 = (j : Int) + 1 := addI_i64 (by omega) (by omega)
      have ms := at_spans l j hlt
      have h3 : 2 ≤ l.length * 2 - j * 2 := by omega
      have ci := inside_ok l[j] bs.length (by omega) (by omega) (k := k + 1)
      have hsu : (∀ s ∈ l.take (j + 1), insideB s bs.length = true) ↔ (∀ s ∈ l.take j, insideB s bs.length = true) ∧ insideB l[j] bs.length = true := by
        rw [List.take_succ_eq_append_getElem hlt]
        simp only [List.mem_append, List.mem_singleton]
        exact ⟨fun h => ⟨fun s hs => h s (.inl hs), h _ (.inr rfl)⟩, fun h s hs => hs.elim (h.1 s) fun e => e ▸ h.2⟩
      generalize l[j] = s at *
      by_cases hall : ∀ s ∈ l.take j, insideB s bs.length = true
      · cases hi : insideB s bs.length with
        | true =>
          rw [hi] at ci hsu
          have hn2 : ∀ s ∈ l.take (j + 1), insideB s bs.length = true := hsu.2 ⟨hall, rfl⟩
          simp -implicitDefEqProofs only [if_pos hall]
          simp -implicitDefEqProofs [hlt, hlt2, e2, ms, h3, ci]
          exact rnd_next (j + 1) hlt (by omega) (by simp only [if_pos hn2]; simp -implicitDefEqProofs [liveOf, coldOf])
        | false =>
          rw [hi] at ci hsu
          have hn2 : ¬ ∀ s ∈ l.take (j + 1), insideB s bs.length = true := fun h => by have := (hsu.1 h).2; cases this
          simp -implicitDefEqProofs only [if_pos hall]
          simp -implicitDefEqProofs [hlt, hlt2, e2, ms, h3, ci]
          exact rnd_next (j + 1) hlt (by omega) (by simp only [if_neg hn2]; simp -implicitDefEqProofs [liveOf, coldOf])
      · have hn2 : ¬ ∀ s ∈ l.take (j + 1), insideB s bs.length = true := fun h => hall (hsu.1 h).1
        simp -implicitDefEqProofs only [if_neg hall]
        simp -implicitDefEqProofs [hlt, hlt2, e2, ms, h3]
        exact rnd_next (j + 1) hlt (by omega) (by simp only [if_neg hn2]; simp -implicitDefEqProofs [liveOf, coldOf])
    · have hj' : j = l.length := by omega
      subst hj'
      have hlt2 : ¬ (l.length : Int) < (l.length : Int) := by omega
      simp only [List.take_length, if_neg hB]
      by_cases hrr : rr = root
      · simp -implicitDefEqProofs [hlt, hlt2, cbl, csp, cef, cec, cro, crf, cho, hrr]
      · simp -implicitDefEqProofs [hlt, hlt2, cbl, csp, cef, cec, cro, crf, cho, hrr]

theorem makes_b_y (bs : List Int) (zb : Bool) (hzb : zb = true → bs = []) (l : List Span) (zl : Bool) (size : Int) (ps : List Piece) (zp : Bool) (root : Int) (hbl : bs.length ≤ 9223372036854775807) (hll : l.length ≤ 9223372036854775807) (hpl : ps.length ≤ 9223372036854775807) (hpb : ∀ p ∈ ps, p.bs.length ≤ 9223372036854775807) (hn : bs.length ≤ 65536) (hl : l.length ≤ 4096) (hB : ¬ ∀ s ∈ l, insideB s bs.length = true) (hx : checkR size ps ≠ 0) {k : Nat} (hk : 400000 + l.length < k) :
    evF Try.prog Γ (k + 1) 4 [roV zb bs.length (flatE (intE .u8) bs), roV zl l.length (flatE spanE l), .agg [.int .i64 size, roV zp ps.length (flatE pieceE ps)], .int .u64 root] [] = some (.bool true, []) := by
  obtain ⟨k, rfl⟩ : ∃ j, k = j + 2 := ⟨k - 2, by omega⟩
  have cbl := blacked16 (k := k + 1) (by omega)
  have cef := exFault_ok size ps zp hpl (k := k + 1) (by omega)
  have cec := exCheck_ok size ps zp hpb hpl (k := k + 1) (by omega)
  have cro := root_bad size ps zp hpb hpl hx (k := k + 1) (by omega)
  have cho := holds_ok size ps zp _ _ root (root_bad size ps zp hpb hpl hx (k := k) (by omega))
  generalize checkR size ps = ee at *
  simp [hx] at cho
  have csp := samePieces_ok 0 0 [] [] true true (by simp) (k := k + 1) (by simp only [List.length_nil]; omega)
  have hs0 : sameAll [] [] = true := rfl
  rw [hs0] at csp
  simp at csp
  have cmk := make_bad bs zb l zl hn hl hB (k := k + 1) (by omega)
  have hnl : ¬ 65536 < bs.length := by omega
  have hnl2 : ¬ (65536 : Int) < bs.length := by omega
  have hcl : ¬ (4096 : Int) < l.length := by omega
  have hcl2 : ¬ 4096 < l.length := by omega
  rw [b4 (fun _ _ => rfl) _ _ (by simp)]
  simp -implicitDefEqProofs [cmk, hnl, hnl2, hcl, hcl2]
  generalize hx : evLoopC _ _ _ _ _ _ _ _ _ _ = R
  apply loop_gen hx (fun j : Nat => (mkL 132 .junk [(0, roV zb bs.length (flatE (intE .u8) bs)), (1, roV zl l.length (flatE spanE l)), (3, .int .u64 root), (6, .ptr 2 0), (9, .ptr 3 0), (10, .int .i64 4), (11, .int .i64 (if ∀ s ∈ l.take j, insideB s bs.length = true then 0 else 4)), (36, roV zl l.length (flatE spanE l)), (37, .int .i64 l.length), (38, .int .i64 j)],
      [none, none, some (.cells [.int .i64 size, roV zp ps.length (flatE pieceE ps)] true), some (.cells [.int .i64 0, .nils] true), none, none, none]))
    (fun j => j ≤ l.length) (fun j => l.length - j) 0
  case hI => simp
  case hq => omega
  case ht => simp -implicitDefEqProofs [liveOf, coldOf]
  case round =>
    rintro j hj _
    clear hx
    by_cases hlt : j < l.length
    · have hlt2 : (j : Int) < (l.length : Int) := by omega
      have e2 : addI .i64 (j : Int) 1 = (j : Int) + 1 := addI_i64 (by omega) (by omega)
      have ms := at_spans l j hlt
      have h3 : 2 ≤ l.length * 2 - j * 2 := by omega
      have ci := inside_ok l[j] bs.length (by omega) (by omega) (k := k + 1)
      have hsu : (∀ s ∈ l.take (j + 1), insideB s bs.length = true) ↔ (∀ s ∈ l.take j, insideB s bs.length = true) ∧ insideB l[j] bs.length = true := by
        rw [List.take_succ_eq_append_getElem hlt]
        simp only [List.mem_append, List.mem_singleton]
        exact ⟨fun h => ⟨fun s hs => h s (.inl hs), h _ (.inr rfl)⟩, fun h s hs => hs.elim (h.1 s) fun e => e ▸ h.2⟩
      generalize l[j] = s at *
      by_cases hall : ∀ s ∈ l.take j, insideB s bs.length = true
      · cases hi : insideB s bs.length with
        | true =>
          rw [hi] at ci hsu
          have hn2 : ∀ s ∈ l.take (j + 1), insideB s bs.length = true := hsu.2 ⟨hall, rfl⟩
          simp -implicitDefEqProofs only [if_pos hall]
          simp -implicitDefEqProofs [hlt, hlt2, e2, ms, h3, ci]
          exact rnd_next (j + 1) hlt (by omega) (by simp only [if_pos hn2]; simp -implicitDefEqProofs [liveOf, coldOf])
        | false =>
          rw [hi] at ci hsu
          have hn2 : ¬ ∀ s ∈ l.take (j + 1), insideB s bs.length = true := fun h => by have := (hsu.1 h).2; cases this
          simp -implicitDefEqProofs only [if_pos hall]
          simp -implicitDefEqProofs [hlt, hlt2, e2, ms, h3, ci]
          exact rnd_next (j + 1) hlt (by omega) (by simp only [if_neg hn2]; simp -implicitDefEqProofs [liveOf, coldOf])
      · have hn2 : ¬ ∀ s ∈ l.take (j + 1), insideB s bs.length = true := fun h => hall (hsu.1 h).1
        simp -implicitDefEqProofs only [if_neg hall]
        simp -implicitDefEqProofs [hlt, hlt2, e2, ms, h3]
        exact rnd_next (j + 1) hlt (by omega) (by simp only [if_neg hn2]; simp -implicitDefEqProofs [liveOf, coldOf])
    · have hj' : j = l.length := by omega
      subst hj'
      have hlt2 : ¬ (l.length : Int) < (l.length : Int) := by omega
      simp only [List.take_length, if_neg hB]
      simp -implicitDefEqProofs [hlt, hlt2, cbl, csp, cef, cec, cro, cho, hx]

theorem makes_c_x (bs : List Int) (zb : Bool) (hzb : zb = true → bs = []) (l : List Span) (zl : Bool) (size : Int) (ps : List Piece) (zp : Bool) (root : Int) (hbl : bs.length ≤ 9223372036854775807) (hll : l.length ≤ 9223372036854775807) (hpl : ps.length ≤ 9223372036854775807) (hpb : ∀ p ∈ ps, p.bs.length ≤ 9223372036854775807) (hn : bs.length ≤ 65536) (h1 : 1 ≤ bs.length) (hl : l.length ≤ 4096) (hC : ∀ s ∈ l, insideB s bs.length = true) (hx : checkR size ps = 0) {k : Nat} (hk : 400000 + l.length < k) :
    evF Try.prog Γ (k + 1) 4 [roV zb bs.length (flatE (intE .u8) bs), roV zl l.length (flatE spanE l), .agg [.int .i64 size, roV zp ps.length (flatE pieceE ps)], .int .u64 root] [] = some (.bool true, []) := by
  obtain ⟨k, rfl⟩ : ∃ j, k = j + 2 := ⟨k - 2, by omega⟩
  have cbl := blacked16 (k := k + 1) (by omega)
  have cef := exFault_ok size ps zp hpl (k := k + 1) (by omega)
  have cec := exCheck_ok size ps zp hpb hpl (k := k + 1) (by omega)
  obtain ⟨n, rfl⟩ : ∃ n : Nat, size = n := ⟨size.toNat, by unfold checkR at hx; split at hx; cases hx; omega⟩
  obtain ⟨hn0, hpn, hpa⟩ := rootR_ok n ps zp hx
  have hB0 : blocksN n ≤ 1024 := by unfold blocksN; omega
  have hB1 := blocksN_pos n
  have cro := root_ok n ps zp hn0 hpn hpa (k := k + 1) (by omega)
  have crf := rootOf_ok ps.length ps zp (by omega) (Nat.le_refl _) (by omega) (allOk_len hpa) (k := k + 1) (by omega)
  have cho := holds_ok n ps zp _ _ root (root_ok n ps zp hn0 hpn hpa (k := k) (by omega))
  rw [hx] at cef cec
  simp at cho
  generalize rootL (ps.map hashOf) = rr at *
  have hzf : zb = false := by cases zb with | false => rfl | true => rw [hzb rfl] at h1; simp at h1
  subst hzf
  have hw := within_of l bs.length hn hC
  have cmk := make_rr bs false l zl h1 hn hl hw (k := k + 1) (by omega)
  have cbk := blackedR_ok bs false l zl h1 hn hl hw (k := k + 1) (by omega)
  rw [black_pieces false bs l hn hw] at cbk
  have lX := piecesOf_length false bs (touched l bs.length)
  have aX := piecesOf_ok false bs (touched l bs.length)
  have hBb : blocksN bs.length ≤ 1024 := by unfold blocksN; omega
  have csp := samePieces_ok bs.length bs.length (piecesOf false bs (touched l bs.length)) (piecesOf false bs (touched l bs.length)) false false (by omega) (k := k + 1) (by omega)
  rw [sameAll_refl, lX] at csp
  have crt := root_ok bs.length (piecesOf false bs (touched l bs.length)) false hn lX aX (k := k + 1) (by omega)
  rw [piecesOf_hash, lX] at crt
  have csr := sumRoot_ok bs false hn (k := k + 1) (by omega)
  have hhs : ((List.range (blocksN bs.length)).map fun i => hash (blockL bs i)) = hashesOf bs := rfl
  rw [hhs] at crt
  have tX : List.take (blocksN bs.length * 3) (flatE pieceE (piecesOf false bs (touched l bs.length))) = flatE pieceE (piecesOf false bs (touched l bs.length)) := by rw [List.take_of_length_le]; simp [lX]
  simp only [roV_false] at cmk csp crt csr ⊢
  generalize piecesOf false bs (touched l bs.length) = X at *
  generalize rootL (hashesOf bs) = rb at *
  simp at csp
  have hnl : ¬ 65536 < bs.length := by omega
  have hnl2 : ¬ (65536 : Int) < bs.length := by omega
  have hcl : ¬ (4096 : Int) < l.length := by omega
  have hcl2 : ¬ 4096 < l.length := by omega
  rw [b4 (fun _ _ => rfl) _ _ (by simp)]
  simp -implicitDefEqProofs [cmk, hnl, hnl2, hcl, hcl2]
  generalize hx : evLoopC _ _ _ _ _ _ _ _ _ _ = R
  apply loop_gen hx (fun j : Nat => (mkL 132 .junk [(0, .ros bs.length (flatE (intE .u8) bs)), (1, roV zl l.length (flatE spanE l)), (3, .int .u64 root), (6, .ptr 2 0), (9, .ptr 3 0), (10, .int .i64 0), (11, .int .i64 0), (36, roV zl l.length (flatE spanE l)), (37, .int .i64 l.length), (38, .int .i64 j)],
      [none, none, some (.cells [.int .i64 (n : Int), roV zp ps.length (flatE pieceE ps)] true), some (.cells [.int .i64 bs.length, .sl 6 0 (blocksN bs.length) 3] true), none, none, some (.cells (flatE pieceE X) false)]))
    (fun j => j ≤ l.length) (fun j => l.length - j) 0
  case hI => simp
  case hq => omega
  case ht => simp -implicitDefEqProofs [liveOf, coldOf]
  case round =>
    rintro j hj _
    clear hx
    by_cases hlt : j < l.length
    · have hlt2 : (j : Int) < (l.length : Int) := by omega
      have e2 : addI .i64 (j : Int) 1 = (j : Int) + 1 := addI_i64 (by omega) (by omega)
      have ms := at_spans l j hlt
      have h3 : 2 ≤ l.length * 2 - j * 2 := by omega
      have hin := hC _ (List.getElem_mem hlt)
      have ci := inside_ok l[j] bs.length (by omega) (by omega) (k := k + 1)
      rw [hin] at ci
      generalize l[j] = s at *
      simp -implicitDefEqProofs [hlt, hlt2, e2, ms, h3, ci]
      exact rnd_next (j + 1) hlt (by omega) (by simp -implicitDefEqProofs [liveOf, coldOf])
    · have hj' : j = l.length := by omega
      subst hj'
      have hlt2 : ¬ (l.length : Int) < (l.length : Int) := by omega
      by_cases hrr : rr = root
      · simp -implicitDefEqProofs [hlt, hlt2, cbl, csp, cbk, crt, csr, tX, cef, cec, cro, crf, cho, hrr]
      · simp -implicitDefEqProofs [hlt, hlt2, cbl, csp, cbk, crt, csr, tX, cef, cec, cro, crf, cho, hrr]

theorem makes_c_y (bs : List Int) (zb : Bool) (hzb : zb = true → bs = []) (l : List Span) (zl : Bool) (size : Int) (ps : List Piece) (zp : Bool) (root : Int) (hbl : bs.length ≤ 9223372036854775807) (hll : l.length ≤ 9223372036854775807) (hpl : ps.length ≤ 9223372036854775807) (hpb : ∀ p ∈ ps, p.bs.length ≤ 9223372036854775807) (hn : bs.length ≤ 65536) (h1 : 1 ≤ bs.length) (hl : l.length ≤ 4096) (hC : ∀ s ∈ l, insideB s bs.length = true) (hx : checkR size ps ≠ 0) {k : Nat} (hk : 400000 + l.length < k) :
    evF Try.prog Γ (k + 1) 4 [roV zb bs.length (flatE (intE .u8) bs), roV zl l.length (flatE spanE l), .agg [.int .i64 size, roV zp ps.length (flatE pieceE ps)], .int .u64 root] [] = some (.bool true, []) := by
  obtain ⟨k, rfl⟩ : ∃ j, k = j + 2 := ⟨k - 2, by omega⟩
  have cbl := blacked16 (k := k + 1) (by omega)
  have cef := exFault_ok size ps zp hpl (k := k + 1) (by omega)
  have cec := exCheck_ok size ps zp hpb hpl (k := k + 1) (by omega)
  have cro := root_bad size ps zp hpb hpl hx (k := k + 1) (by omega)
  have cho := holds_ok size ps zp _ _ root (root_bad size ps zp hpb hpl hx (k := k) (by omega))
  generalize checkR size ps = ee at *
  simp [hx] at cho
  have hzf : zb = false := by cases zb with | false => rfl | true => rw [hzb rfl] at h1; simp at h1
  subst hzf
  have hw := within_of l bs.length hn hC
  have cmk := make_rr bs false l zl h1 hn hl hw (k := k + 1) (by omega)
  have cbk := blackedR_ok bs false l zl h1 hn hl hw (k := k + 1) (by omega)
  rw [black_pieces false bs l hn hw] at cbk
  have lX := piecesOf_length false bs (touched l bs.length)
  have aX := piecesOf_ok false bs (touched l bs.length)
  have hBb : blocksN bs.length ≤ 1024 := by unfold blocksN; omega
  have csp := samePieces_ok bs.length bs.length (piecesOf false bs (touched l bs.length)) (piecesOf false bs (touched l bs.length)) false false (by omega) (k := k + 1) (by omega)
  rw [sameAll_refl, lX] at csp
  have crt := root_ok bs.length (piecesOf false bs (touched l bs.length)) false hn lX aX (k := k + 1) (by omega)
  rw [piecesOf_hash, lX] at crt
  have csr := sumRoot_ok bs false hn (k := k + 1) (by omega)
  have hhs : ((List.range (blocksN bs.length)).map fun i => hash (blockL bs i)) = hashesOf bs := rfl
  rw [hhs] at crt
  have tX : List.take (blocksN bs.length * 3) (flatE pieceE (piecesOf false bs (touched l bs.length))) = flatE pieceE (piecesOf false bs (touched l bs.length)) := by rw [List.take_of_length_le]; simp [lX]
  simp only [roV_false] at cmk csp crt csr ⊢
  generalize piecesOf false bs (touched l bs.length) = X at *
  generalize rootL (hashesOf bs) = rb at *
  simp at csp
  have hnl : ¬ 65536 < bs.length := by omega
  have hnl2 : ¬ (65536 : Int) < bs.length := by omega
  have hcl : ¬ (4096 : Int) < l.length := by omega
  have hcl2 : ¬ 4096 < l.length := by omega
  rw [b4 (fun _ _ => rfl) _ _ (by simp)]
  simp -implicitDefEqProofs [cmk, hnl, hnl2, hcl, hcl2]
  generalize hx : evLoopC _ _ _ _ _ _ _ _ _ _ = R
  apply loop_gen hx (fun j : Nat => (mkL 132 .junk [(0, .ros bs.length (flatE (intE .u8) bs)), (1, roV zl l.length (flatE spanE l)), (3, .int .u64 root), (6, .ptr 2 0), (9, .ptr 3 0), (10, .int .i64 0), (11, .int .i64 0), (36, roV zl l.length (flatE spanE l)), (37, .int .i64 l.length), (38, .int .i64 j)],
      [none, none, some (.cells [.int .i64 size, roV zp ps.length (flatE pieceE ps)] true), some (.cells [.int .i64 bs.length, .sl 6 0 (blocksN bs.length) 3] true), none, none, some (.cells (flatE pieceE X) false)]))
    (fun j => j ≤ l.length) (fun j => l.length - j) 0
  case hI => simp
  case hq => omega
  case ht => simp -implicitDefEqProofs [liveOf, coldOf]
  case round =>
    rintro j hj _
    clear hx
    by_cases hlt : j < l.length
    · have hlt2 : (j : Int) < (l.length : Int) := by omega
      have e2 : addI .i64 (j : Int) 1 = (j : Int) + 1 := addI_i64 (by omega) (by omega)
      have ms := at_spans l j hlt
      have h3 : 2 ≤ l.length * 2 - j * 2 := by omega
      have hin := hC _ (List.getElem_mem hlt)
      have ci := inside_ok l[j] bs.length (by omega) (by omega) (k := k + 1)
      rw [hin] at ci
      generalize l[j] = s at *
      simp -implicitDefEqProofs [hlt, hlt2, e2, ms, h3, ci]
      exact rnd_next (j + 1) hlt (by omega) (by simp -implicitDefEqProofs [liveOf, coldOf])
    · have hj' : j = l.length := by omega
      subst hj'
      have hlt2 : ¬ (l.length : Int) < (l.length : Int) := by omega
      simp -implicitDefEqProofs [hlt, hlt2, cbl, csp, cbk, crt, csr, tX, cef, cec, cro, cho, hx]

theorem makes_d_x (bs : List Int) (zb : Bool) (hzb : zb = true → bs = []) (l : List Span) (zl : Bool) (size : Int) (ps : List Piece) (zp : Bool) (root : Int) (hbl : bs.length ≤ 9223372036854775807) (hll : l.length ≤ 9223372036854775807) (hpl : ps.length ≤ 9223372036854775807) (hpb : ∀ p ∈ ps, p.bs.length ≤ 9223372036854775807) (h0 : bs = []) (hl : l.length ≤ 4096) (hC : ∀ s ∈ l, insideB s 0 = true) (hx : checkR size ps = 0) {k : Nat} (hk : 400000 + l.length < k) :
    evF Try.prog Γ (k + 1) 4 [roV zb bs.length (flatE (intE .u8) bs), roV zl l.length (flatE spanE l), .agg [.int .i64 size, roV zp ps.length (flatE pieceE ps)], .int .u64 root] [] = some (.bool true, []) := by
  obtain ⟨k, rfl⟩ : ∃ j, k = j + 2 := ⟨k - 2, by omega⟩
  have cbl := blacked16 (k := k + 1) (by omega)
  have cef := exFault_ok size ps zp hpl (k := k + 1) (by omega)
  have cec := exCheck_ok size ps zp hpb hpl (k := k + 1) (by omega)
  obtain ⟨n, rfl⟩ : ∃ n : Nat, size = n := ⟨size.toNat, by unfold checkR at hx; split at hx; cases hx; omega⟩
  obtain ⟨hn0, hpn, hpa⟩ := rootR_ok n ps zp hx
  have hB0 : blocksN n ≤ 1024 := by unfold blocksN; omega
  have hB1 := blocksN_pos n
  have cro := root_ok n ps zp hn0 hpn hpa (k := k + 1) (by omega)
  have crf := rootOf_ok ps.length ps zp (by omega) (Nat.le_refl _) (by omega) (allOk_len hpa) (k := k + 1) (by omega)
  have cho := holds_ok n ps zp _ _ root (root_ok n ps zp hn0 hpn hpa (k := k) (by omega))
  rw [hx] at cef cec
  simp at cho
  generalize rootL (ps.map hashOf) = rr at *
  subst h0
  have hw := within_of l 0 (by omega) hC
  have cmk := make_none zb l zl hl hw (k := k + 1) (by omega)
  have cbk := blackedR_none zb l zl hl hw (k := k + 1) (by omega)
  have csp := samePieces_ok 0 0 [⟨false, zb, [], 0⟩] [⟨false, zb, [], 0⟩] false false (by simp) (k := k + 1) (by simp only [List.length_singleton]; omega)
  rw [sameAll_refl] at csp
  have crt := root_ok 0 [⟨false, zb, [], 0⟩] false (by omega) rfl (by rw [allOk_iff]; intro i hi; simp at hi; subst hi; simp [pieceOk, placeL]; rfl) (k := k + 1) (by omega)
  have csr := sumRoot_ok [] zb (by simp) (k := k + 1) (by omega)
  have hhs : rootL (([⟨false, zb, [], 0⟩] : List Piece).map hashOf) = rootL (hashesOf []) := rfl
  rw [hhs] at crt
  simp [pieceE_f] at csp crt csr cmk cbk
  generalize rootL (hashesOf []) = rb at *
  have hcl : ¬ (4096 : Int) < l.length := by omega
  have hcl2 : ¬ 4096 < l.length := by omega
  rw [b4 (fun _ _ => rfl) _ _ (by simp)]
  simp -implicitDefEqProofs [cmk, hcl, hcl2]
  generalize hx : evLoopC _ _ _ _ _ _ _ _ _ _ = R
  apply loop_gen hx (fun j : Nat => (mkL 132 .junk [(0, roV zb 0 []), (1, roV zl l.length (flatE spanE l)), (3, .int .u64 root), (6, .ptr 2 0), (9, .ptr 3 0), (10, .int .i64 0), (11, .int .i64 0), (36, roV zl l.length (flatE spanE l)), (37, .int .i64 l.length), (38, .int .i64 j)],
      [none, none, some (.cells [.int .i64 (n : Int), roV zp ps.length (flatE pieceE ps)] true), some (.cells [.int .i64 0, .sl 6 0 1 3] true), none, none, some (.cells [.bool false, roV zb 0 [], .int .u64 0] false)]))
    (fun j => j ≤ l.length) (fun j => l.length - j) 0
  case hI => simp
  case hq => omega
  case ht => simp -implicitDefEqProofs [liveOf, coldOf]
  case round =>
    rintro j hj _
    clear hx
    by_cases hlt : j < l.length
    · have hlt2 : (j : Int) < (l.length : Int) := by omega
      have e2 : addI .i64 (j : Int) 1 = (j : Int) + 1 := addI_i64 (by omega) (by omega)
      have ms := at_spans l j hlt
      have h3 : 2 ≤ l.length * 2 - j * 2 := by omega
      have hin := hC _ (List.getElem_mem hlt)
      have ci := inside_ok l[j] 0 (by omega) (by omega) (k := k + 1)
      rw [hin] at ci
      generalize l[j] = s at *
      simp -implicitDefEqProofs [hlt, hlt2, e2, ms, h3, ci]
      exact rnd_next (j + 1) hlt (by omega) (by simp -implicitDefEqProofs [liveOf, coldOf])
    · have hj' : j = l.length := by omega
      subst hj'
      have hlt2 : ¬ (l.length : Int) < (l.length : Int) := by omega
      by_cases hrr : rr = root
      · simp -implicitDefEqProofs [hlt, hlt2, cbl, csp, cbk, crt, csr, cef, cec, cro, crf, cho, hrr]
      · simp -implicitDefEqProofs [hlt, hlt2, cbl, csp, cbk, crt, csr, cef, cec, cro, crf, cho, hrr]

theorem makes_d_y (bs : List Int) (zb : Bool) (hzb : zb = true → bs = []) (l : List Span) (zl : Bool) (size : Int) (ps : List Piece) (zp : Bool) (root : Int) (hbl : bs.length ≤ 9223372036854775807) (hll : l.length ≤ 9223372036854775807) (hpl : ps.length ≤ 9223372036854775807) (hpb : ∀ p ∈ ps, p.bs.length ≤ 9223372036854775807) (h0 : bs = []) (hl : l.length ≤ 4096) (hC : ∀ s ∈ l, insideB s 0 = true) (hx : checkR size ps ≠ 0) {k : Nat} (hk : 400000 + l.length < k) :
    evF Try.prog Γ (k + 1) 4 [roV zb bs.length (flatE (intE .u8) bs), roV zl l.length (flatE spanE l), .agg [.int .i64 size, roV zp ps.length (flatE pieceE ps)], .int .u64 root] [] = some (.bool true, []) := by
  obtain ⟨k, rfl⟩ : ∃ j, k = j + 2 := ⟨k - 2, by omega⟩
  have cbl := blacked16 (k := k + 1) (by omega)
  have cef := exFault_ok size ps zp hpl (k := k + 1) (by omega)
  have cec := exCheck_ok size ps zp hpb hpl (k := k + 1) (by omega)
  have cro := root_bad size ps zp hpb hpl hx (k := k + 1) (by omega)
  have cho := holds_ok size ps zp _ _ root (root_bad size ps zp hpb hpl hx (k := k) (by omega))
  generalize checkR size ps = ee at *
  simp [hx] at cho
  subst h0
  have hw := within_of l 0 (by omega) hC
  have cmk := make_none zb l zl hl hw (k := k + 1) (by omega)
  have cbk := blackedR_none zb l zl hl hw (k := k + 1) (by omega)
  have csp := samePieces_ok 0 0 [⟨false, zb, [], 0⟩] [⟨false, zb, [], 0⟩] false false (by simp) (k := k + 1) (by simp only [List.length_singleton]; omega)
  rw [sameAll_refl] at csp
  have crt := root_ok 0 [⟨false, zb, [], 0⟩] false (by omega) rfl (by rw [allOk_iff]; intro i hi; simp at hi; subst hi; simp [pieceOk, placeL]; rfl) (k := k + 1) (by omega)
  have csr := sumRoot_ok [] zb (by simp) (k := k + 1) (by omega)
  have hhs : rootL (([⟨false, zb, [], 0⟩] : List Piece).map hashOf) = rootL (hashesOf []) := rfl
  rw [hhs] at crt
  simp [pieceE_f] at csp crt csr cmk cbk
  generalize rootL (hashesOf []) = rb at *
  have hcl : ¬ (4096 : Int) < l.length := by omega
  have hcl2 : ¬ 4096 < l.length := by omega
  rw [b4 (fun _ _ => rfl) _ _ (by simp)]
  simp -implicitDefEqProofs [cmk, hcl, hcl2]
  generalize hx : evLoopC _ _ _ _ _ _ _ _ _ _ = R
  apply loop_gen hx (fun j : Nat => (mkL 132 .junk [(0, roV zb 0 []), (1, roV zl l.length (flatE spanE l)), (3, .int .u64 root), (6, .ptr 2 0), (9, .ptr 3 0), (10, .int .i64 0), (11, .int .i64 0), (36, roV zl l.length (flatE spanE l)), (37, .int .i64 l.length), (38, .int .i64 j)],
      [none, none, some (.cells [.int .i64 size, roV zp ps.length (flatE pieceE ps)] true), some (.cells [.int .i64 0, .sl 6 0 1 3] true), none, none, some (.cells [.bool false, roV zb 0 [], .int .u64 0] false)]))
    (fun j => j ≤ l.length) (fun j => l.length - j) 0
  case hI => simp
  case hq => omega
  case ht => simp -implicitDefEqProofs [liveOf, coldOf]
  case round =>
    rintro j hj _
    clear hx
    by_cases hlt : j < l.length
    · have hlt2 : (j : Int) < (l.length : Int) := by omega
      have e2 : addI .i64 (j : Int) 1 = (j : Int) + 1 := addI_i64 (by omega) (by omega)
      have ms := at_spans l j hlt
      have h3 : 2 ≤ l.length * 2 - j * 2 := by omega
      have hin := hC _ (List.getElem_mem hlt)
      have ci := inside_ok l[j] 0 (by omega) (by omega) (k := k + 1)
      rw [hin] at ci
      generalize l[j] = s at *
      simp -implicitDefEqProofs [hlt, hlt2, e2, ms, h3, ci]
      exact rnd_next (j + 1) hlt (by omega) (by simp -implicitDefEqProofs [liveOf, coldOf])
    · have hj' : j = l.length := by omega
      subst hj'
      have hlt2 : ¬ (l.length : Int) < (l.length : Int) := by omega
      simp -implicitDefEqProofs [hlt, hlt2, cbl, csp, cbk, crt, csr, cef, cec, cro, cho, hx]

theorem makes_ok (bs : List Int) (zb : Bool) (hzb : zb = true → bs = []) (l : List Span) (zl : Bool) (size : Int) (ps : List Piece) (zp : Bool) (root : Int) (hbl : bs.length ≤ 9223372036854775807) (hll : l.length ≤ 9223372036854775807) (hpl : ps.length ≤ 9223372036854775807) (hpb : ∀ p ∈ ps, p.bs.length ≤ 9223372036854775807) {k : Nat} (hk : 400000 + l.length < k) :
    evF Try.prog Γ (k + 1) 4 [roV zb bs.length (flatE (intE .u8) bs), roV zl l.length (flatE spanE l), .agg [.int .i64 size, roV zp ps.length (flatE pieceE ps)], .int .u64 root] [] = some (.bool true, []) := by
  by_cases hx : checkR size ps = 0
  · by_cases hA : 65536 < bs.length ∨ 4096 < l.length
    · exact makes_a_x bs zb hzb l zl size ps zp root hbl hll hpl hpb hA hx hk
    · by_cases hB : ∀ s ∈ l, insideB s bs.length = true
      · by_cases h0 : bs = []
        · exact makes_d_x bs zb hzb l zl size ps zp root hbl hll hpl hpb h0 (by omega) (by subst h0; exact hB) hx hk
        · exact makes_c_x bs zb hzb l zl size ps zp root hbl hll hpl hpb (by omega) (by have := List.length_pos_iff.2 h0; omega) (by omega) hB hx hk
      · exact makes_b_x bs zb hzb l zl size ps zp root hbl hll hpl hpb (by omega) (by omega) hB hx hk
  · by_cases hA : 65536 < bs.length ∨ 4096 < l.length
    · exact makes_a_y bs zb hzb l zl size ps zp root hbl hll hpl hpb hA hx hk
    · by_cases hB : ∀ s ∈ l, insideB s bs.length = true
      · by_cases h0 : bs = []
        · exact makes_d_y bs zb hzb l zl size ps zp root hbl hll hpl hpb h0 (by omega) (by subst h0; exact hB) hx hk
        · exact makes_c_y bs zb hzb l zl size ps zp root hbl hll hpl hpb (by omega) (by have := List.length_pos_iff.2 h0; omega) (by omega) hB hx hk
      · exact makes_b_y bs zb hzb l zl size ps zp root hbl hll hpl hpb (by omega) (by omega) hB hx hk
end Go.Ev.Try

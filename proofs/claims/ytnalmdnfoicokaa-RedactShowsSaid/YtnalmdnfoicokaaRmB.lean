/-
  THE REDACT SEAT: redact.Make where it refuses, or there are no bytes (own work).
-/
import Derived.Test.YtnalmdnfoicokaaRmA
set_option linter.unusedSimpArgs false
set_option linter.unusedVariables false
set_option maxRecDepth 100000
set_option maxHeartbeats 8000000
namespace Go.Ev.Try
open Go Go.Ev Go.Proofs

theorem touched_zero (l : List Span) (i : Nat) : touched l 0 i = false := by
  rw [← Bool.not_eq_true, touched_iff]
  rintro ⟨x, _, ⟨t, ht, hg, h3, h4⟩⟩
  rw [List.mem_singleton.1 ht] at hg
  have := hg.2
  unfold placeL at this
  simp only at this
  omega
theorem make_none (zb : Bool) (l : List Span) (zl : Bool) (hl : l.length ≤ 4096) (hw : Within 0 l) {k : Nat} (hk : 200000 < k) :
    evF Try.prog Γ (k + 1) 8 [roV zb 0 [], roV zl l.length (flatE spanE l)] [] = some (.tup [.agg [.int .i64 0, .sl 0 0 1 3], .int .i64 0], [some (.cells (flatE pieceE [⟨false, zb, [], 0⟩]) false)]) := by
  obtain ⟨k, rfl⟩ : ∃ j, k = j + 2 := ⟨k - 2, by omega⟩
  rw [b8 (fun _ _ => rfl) _ _ (by simp)]
  have hcl : ¬ (4096 : Int) < l.length := by omega
  have hcl2 : ¬ 4096 < l.length := by omega
  simp -implicitDefEqProofs [hcl, hcl2]
  generalize hx : evLoopC _ _ _ _ _ _ _ _ _ _ = R
  apply loop_gen hx (fun i : Nat => (mkL 91 .junk [(0, roV zb 0 []), (1, roV zl l.length (flatE spanE l)), (4, .ptr 2 0), (22, roV zl l.length (flatE spanE l)), (23, .int .i64 (l.length)), (24, .int .i64 i)],
      [none, none, some (.cells [.int .i64 0, .nils] true), none, none])) (fun i => i ≤ l.length) (fun i => l.length - i) 0
  case hI => simp
  case hq => omega
  case ht => simp -implicitDefEqProofs [liveOf, coldOf]
  case round =>
    rintro i hi _
    clear hx
    by_cases hlt : i < l.length
    · have hlt2 : (i : Int) < l.length := by omega
      have e2 : addI .i64 (i : Int) 1 = (i : Int) + 1 := addI_i64 (by omega) (by omega)
      have ms := at_spans l i hlt
      have hin := hw _ (List.getElem_mem hlt)
      have cc := check_ok l[i] (k := k + 1)
      generalize l[i] = s at *
      have hok : s.ok := ⟨hin.1, hin.2.1, by omega, by omega⟩
      rw [if_pos hok] at cc
      have h3 : 2 ≤ l.length * 2 - i * 2 := by omega
      have e3 : addI .i64 s.off s.len = s.off + s.len := addI_i64 (by omega) (by omega)
      have hle : ¬ 0 < s.off + s.len := by omega
      simp -implicitDefEqProofs [hlt, hlt2, e2, e3, ms, cc, h3, hle]
      exact rnd_next (i + 1) hlt (by omega) (by simp -implicitDefEqProofs [liveOf, coldOf])
    · have hi' : i = l.length := by omega
      subst hi'
      have cn := norm_ok l zl (by omega) (k := k + 1) (by omega)
      have nf := norm_facts l
      have cb := blocks_ok 0 (by omega) (k := k + 1)
      have cp := place_ok 0 0 (by omega) (by omega) (k := k + 1)
      have hNl : (normL l).length ≤ 4096 := Nat.le_trans nf.2.1 (by omega)
      obtain ⟨O, cm, hO⟩ := meet_ok (normL l) [⟨0, 0⟩] true false (by omega) (by simp) (k := k + 1) (by simp only [List.length_singleton]; omega)
      have hOn : O = [] := by
        refine Classical.byContradiction fun h => ?_
        obtain ⟨x, _, ⟨t, ht, hg, _⟩⟩ := hO.1 h
        rw [List.mem_singleton.1 ht] at hg
        exact absurd hg.2 (by decide)
      subst hOn
      have cl := clone_ok [] zb (by simp) (k := k + 1)
      have hpl : placeL 0 0 = 0 := rfl
      have hb1 : blocksN 0 = 1 := rfl
      have e3 : addI .i64 0 0 = 0 := addI_i64 (by omega) (by omega)
      have e2 : addI .i64 0 1 = 1 := addI_i64 (by omega) (by omega)
      clear nf hO
      rw [hb1] at cb
      rw [hpl] at cp
      generalize normL l = N at *
      simp [spanE_f] at cm cl cb cp
      cases hN0 : N.length with
      | zero =>
        have hnil : N = [] := List.length_eq_zero_iff.1 hN0
        subst hnil
        simp at cn cm
        simp -implicitDefEqProofs [cn, cb]
        generalize hx : evLoopC _ _ _ _ _ _ _ _ _ _ = R
        apply loop_gen hx (fun a : Nat => match a with
          | 0 => (mkL 91 .junk [(0, roV zb 0 []), (4, .ptr 1 0), (8, .nils), (9, .ptr 3 0), (50, .int .i64 1), (51, .int .i64 0)], [none, some (.cells [.int .i64 0, .nils] true), none, some (.cells [.int .i64 0, .nils] true), none, none])
          | _ => (mkL 91 .junk [(0, roV zb 0 []), (4, .ptr 1 0), (8, .nils), (9, .ptr 3 0), (50, .int .i64 1), (51, .int .i64 1)], [none, some (.cells [.int .i64 0, .nils] true), none, some (.cells [.int .i64 0, .sl 5 0 1 3] true), none, some (.cells (flatE pieceE [⟨false, zb, [], 0⟩]) false)]))
          (fun a => a ≤ 1) (fun a => 1 - a) 0
        case hI => simp
        case hq => omega
        case ht => simp -implicitDefEqProofs [liveOf, coldOf]
        case round =>
          intro a ha _
          clear hx
          rcases (by omega : a = 0 ∨ a = 1) with rfl | rfl
          · cases zb with
            | true =>
              simp at cl
              simp -implicitDefEqProofs [cp, cm, cl, e2, e3]
              exact rnd_next 1 (by omega) (by omega) (by simp -implicitDefEqProofs [liveOf, coldOf, pieceE_f])
            | false =>
              simp at cl
              simp -implicitDefEqProofs [cp, cm, cl, e2, e3]
              exact rnd_next 1 (by omega) (by omega) (by simp -implicitDefEqProofs [liveOf, coldOf, pieceE_f])
          · simp -implicitDefEqProofs [pieceE_f]
      | succ d =>
        rw [hN0] at cn cm
        have tN : List.take ((d + 1) * 2) (flatE spanE N) = flatE spanE N := by rw [List.take_of_length_le]; simp [hN0]
        simp at cn cm
        simp -implicitDefEqProofs [cn, cb]
        generalize hx : evLoopC _ _ _ _ _ _ _ _ _ _ = R
        apply loop_gen hx (fun a : Nat => match a with
          | 0 => (mkL 91 .junk [(0, roV zb 0 []), (4, .ptr 1 0), (8, .sl 2 0 (d + 1) 2), (9, .ptr 3 0), (50, .int .i64 1), (51, .int .i64 0)], [none, some (.cells [.int .i64 0, .nils] true), some (.cells (flatE spanE N) false), some (.cells [.int .i64 0, .nils] true), none, none])
          | _ => (mkL 91 .junk [(0, roV zb 0 []), (4, .ptr 1 0), (8, .sl 2 0 (d + 1) 2), (9, .ptr 3 0), (50, .int .i64 1), (51, .int .i64 1)], [none, some (.cells [.int .i64 0, .nils] true), some (.cells (flatE spanE N) false), some (.cells [.int .i64 0, .sl 5 0 1 3] true), none, some (.cells (flatE pieceE [⟨false, zb, [], 0⟩]) false)]))
          (fun a => a ≤ 1) (fun a => 1 - a) 0
        case hI => simp
        case hq => omega
        case ht => simp -implicitDefEqProofs [liveOf, coldOf]
        case round =>
          intro a ha _
          clear hx
          rcases (by omega : a = 0 ∨ a = 1) with rfl | rfl
          · cases zb with
            | true =>
              simp at cl
              simp -implicitDefEqProofs [cp, cm, cl, e2, e3, tN]
              exact rnd_next 1 (by omega) (by omega) (by simp -implicitDefEqProofs [liveOf, coldOf, pieceE_f])
            | false =>
              simp at cl
              simp -implicitDefEqProofs [cp, cm, cl, e2, e3, tN]
              exact rnd_next 1 (by omega) (by omega) (by simp -implicitDefEqProofs [liveOf, coldOf, pieceE_f])
          · simp -implicitDefEqProofs [pieceE_f]
end Go.Ev.Try

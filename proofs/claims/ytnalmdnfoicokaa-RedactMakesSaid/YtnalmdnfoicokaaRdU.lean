/-
  THE REDACT SEAT: sum.Root of bytes (own work).
-/
import Derived.Test.YtnalmdnfoicokaaRdM
import Derived.Test.YtnalmdnfoicokaaRdC3
set_option linter.unusedSimpArgs false
set_option linter.unusedVariables false
set_option maxRecDepth 100000
set_option maxHeartbeats 8000000
namespace Go.Ev.Try
open Go Go.Ev Go.Proofs

/-- Lists of numbers, read only. -/
def rosE : Enc (List Int) := ⟨fun l => [.ros l.length (flatE (intE .u64) l)], 1, fun _ => rfl, fun a v h => by simp at h; subst h; rfl⟩
@[simp] theorem rosE_k : rosE.k = 1 := rfl
theorem rosE_f (l : List Int) : rosE.f l = [.ros l.length (flatE (intE .u64) l)] := rfl

noncomputable def hashesOf (bs : List Int) : List Int := (List.range (blocksN bs.length)).map fun i => hash (blockL bs i)
theorem sumBlocks_ok (bs : List Int) (z : Bool) (hn : bs.length ≤ 1000000) {k : Nat} : evF Try.prog Γ (k + 1) 64 [roV z bs.length (flatE (intE .u8) bs)] [] = some (.int .i64 (blocksN bs.length), []) := by
  generalize hnn : bs.length = n at *
  have e1 : addI .i64 (n : Int) 64 = n + 64 := addI_i64 (by omega) (by omega)
  have e2 : subI .i64 ((n : Int) + 64) 1 = n + 63 := by rw [subI_i64 (by omega) (by omega)]; omega
  have e3 : quoI .i64 ((n : Int) + 63) 64 = ((n + 63) / 64 : Nat) := by
    rw [quoI_eq, Int.tdiv_eq_ediv_of_nonneg (by omega), wrap_i64 (by omega) (by omega)]; omega
  have e4 : (if (1 : Int) < ((n : Int) + 63) / 64 then ((n : Int) + 63) / 64 else 1) = (blocksN n : Nat) := by
    unfold blocksN; split <;> omega
  rw [b64 (fun _ _ => rfl) _ _ (by simp)]
  simp -implicitDefEqProofs [e1, e2, e3, e4]
theorem sumBlock_ok (bs : List Int) (z : Bool) (hn : bs.length ≤ 65536) (i : Nat) (hi : i < blocksN bs.length) {k : Nat} :
    evF Try.prog Γ (k + 1) 65 [roV z bs.length (flatE (intE .u8) bs), .int .i64 i] [] = some (roV (z && bs.length == 0) (blockL bs i).length (flatE (intE .u8) (blockL bs i)), [none]) := by
  have hB : blocksN bs.length ≤ 1024 := by unfold blocksN; omega
  obtain ⟨q, hq, hq64, hqn, hbl, hbl0, hq0⟩ := block_facts bs i hi
  have e1 : mulI .i64 (i : Int) 64 = i * 64 := mulI_i64 (by omega) (by omega)
  have e2 : addI .i64 ((i : Int) * 64) 64 = i * 64 + 64 := addI_i64 (by omega) (by omega)
  have e3 : (if (i : Int) * 64 + 64 < bs.length then (i : Int) * 64 + 64 else bs.length) = (i : Int) * 64 + q := by unfold placeL at hq; split <;> omega
  have e5 : 0 ≤ (i : Int) * 64 := by omega
  have e6 : ((i : Int) * 64).toNat = i * 64 := by omega
  have e7 : 0 ≤ (i : Int) * 64 + q := by omega
  have e8 : ((i : Int) * 64 + q).toNat = i * 64 + q := by omega
  have e9 : i * 64 ≤ i * 64 + q := by omega
  have w : List.take q (List.drop (i * 64) (flatE (intE .u8) bs)) = flatE (intE .u8) (blockL bs i) := by rw [drop_flatE1 (intE .u8) rfl, take_flatE1 (intE .u8) rfl, hbl]
  rw [b65 (fun _ _ => rfl) _ _ (by simp), hbl0]
  simp -implicitDefEqProofs [e1, e2, e3, e5, e6, e7, e8, e9, hqn, w]
theorem pair_ok (a b : Int) {k : Nat} (hk : 60 < k) : evF Try.prog Γ (k + 1) 66 [.int .u64 a, .int .u64 b] [] = some (.int .u64 (pairH a b), []) := by
  obtain ⟨k, rfl⟩ : ∃ j, k = j + 1 := ⟨k - 1, by omega⟩
  have na := number_ok a (k := k) (by omega)
  have nb := number_ok b (k := k) (by omega)
  have nc := concat_ok (numL a) (numL b) (numL_length a) (numL_length b) (k := k) (by omega)
  have nl : (numL a ++ numL b).length = 16 := by simp [numL_length]
  have nh := hash_ok (numL a ++ numL b) false (by omega) (k := k) (by omega)
  rw [nl] at nh
  simp at nh
  have la := numL_length a
  have lb := numL_length b
  have ta : List.take 8 (flatE (intE .u8) (numL a)) = flatE (intE .u8) (numL a) := by rw [List.take_of_length_le]; simp [la]
  have tb : List.take 8 (flatE (intE .u8) (numL b)) = flatE (intE .u8) (numL b) := by rw [List.take_of_length_le]; simp [lb]
  have tc : List.take 16 (flatE (intE .u8) (numL a) ++ flatE (intE .u8) (numL b)) = flatE (intE .u8) (numL a) ++ flatE (intE .u8) (numL b) := by rw [List.take_of_length_le]; simp [la, lb]
  rw [b66 (fun _ _ => rfl) _ _ (by simp)]
  simp -implicitDefEqProofs [na, nb, nc, nh, ta, tb, tc, la, lb, pairH]

/-- The levels' loop's head. -/
def levS (Ls : List (List Int)) (U : List Int) : List V × Heap := match Ls with
  | [] => (mkL 63 .junk [(3, .sl 0 0 U.length 1), (5, .sl 1 0 1 1)], [some (.cells (flatE (intE .u64) U) false), some (.cells [.sl 0 0 U.length 1] true), none])
  | L :: Ls => (mkL 63 .junk [(3, .sl 0 0 U.length 1), (5, .sl 1 0 (Ls.length + 2) 1)], [some (.cells (flatE (intE .u64) U) false), some (.cells (flatE rosE (L :: Ls) ++ [.sl 0 0 U.length 1]) false)])
def LevPost (h : Int) (r : Option (V × Heap)) : Prop := ∃ (Ls : List (List Int)) (ex : Bool), Ls.length ≤ 1024 ∧ (∀ L ∈ Ls, 1 ≤ L.length) ∧ (Ls.map List.length).sum ≤ 1000000 ∧ r = some (.sl 0 0 (Ls.length + 1) 1, [some (.cells (flatE rosE Ls ++ [.sl 1 0 1 1]) ex), some (.cells [.int .u64 h] false)])

theorem levels_ok (bs : List Int) (z : Bool) (hn : bs.length ≤ 65536) {k : Nat} (hk : 3000 < k) : LevPost (rootL (hashesOf bs)) (evF Try.prog Γ (k + 1) 60 [roV z bs.length (flatE (intE .u8) bs)] []) := by
  obtain ⟨k, rfl⟩ : ∃ j, k = j + 1 := ⟨k - 1, by omega⟩
  have hB : blocksN bs.length ≤ 1024 := by unfold blocksN; omega
  have hB1 := blocksN_pos bs.length
  have cb := sumBlocks_ok bs z (by omega) (k := k)
  rw [b60 (fun _ _ => rfl) _ _ (by simp)]
  simp -implicitDefEqProofs [cb]
  generalize hx : evLoopC _ _ _ _ _ _ _ _ _ _ = R
  apply loop_gen hx (fun a : Nat × List Int => (mkL 63 .junk [(0, roV z bs.length (flatE (intE .u8) bs)), (3, ownV true 1 0 a.2.length 1), (9, .int .i64 (blocksN bs.length)), (10, .int .i64 a.1)], [none, ownB true a.2.length (flatE (intE .u64) a.2)]))
    (fun a => a.1 ≤ blocksN bs.length ∧ a.2 = (hashesOf bs).take a.1) (fun a => blocksN bs.length - a.1) (0, [])
  case hI => simp
  case hq => simp only; omega
  case ht => simp -implicitDefEqProofs [liveOf, coldOf]
  case round =>
    rintro ⟨i, L⟩ ⟨hi, hL⟩ _
    clear hx
    simp only at hi hL
    have hhl : (hashesOf bs).length = blocksN bs.length := by simp [hashesOf]
    have hLl : L.length = i := by rw [hL, List.length_take]; omega
    by_cases hlt : i < blocksN bs.length
    · have hlt2 : (i : Int) < (blocksN bs.length : Int) := by omega
      have e2 : addI .i64 (i : Int) 1 = (i : Int) + 1 := addI_i64 (by omega) (by omega)
      have c65 := sumBlock_ok bs z hn i hlt (k := k)
      obtain ⟨q, hq, hq64, hqn, hbl, hbl0, hq0⟩ := block_facts bs i hlt
      have ch := hash_ok (blockL bs i) (z && bs.length == 0) (by omega) (k := k) (by omega)
      have hs : (hashesOf bs).take (i + 1) = L ++ [hash (blockL bs i)] := by rw [List.take_succ_eq_append_getElem (by omega), ← hL]; simp [hashesOf]
      cases hL0 : L.length with
      | zero =>
        have hnil : L = [] := List.length_eq_zero_iff.1 hL0
        subst hnil
        simp -implicitDefEqProofs [hlt, hlt2, e2, c65, ch]
        exact rnd_next (i + 1, [hash (blockL bs i)]) ⟨hlt, hs.symm⟩ (by simp only; omega) (by simp -implicitDefEqProofs [liveOf, coldOf])
      | succ c =>
        have hb : (c + 1 + 1) * 8 ≤ 140737488355328 := by omega
        simp -implicitDefEqProofs [hlt, hlt2, e2, c65, ch, hL0, hb]
        exact rnd_next (i + 1, L ++ [hash (blockL bs i)]) ⟨hlt, hs.symm⟩ (by simp only; omega) (by simp -implicitDefEqProofs [liveOf, coldOf, hL0])
    · have hi' : i = blocksN bs.length := by omega
      subst hi'
      rw [List.take_of_length_le (by omega)] at hL
      obtain ⟨c, hc⟩ : ∃ c, blocksN bs.length = c + 1 := ⟨blocksN bs.length - 1, by omega⟩
      rw [← hL]
      have hLc : L.length = c + 1 := by omega
      have hc2 : c + 1 ≤ 1024 := by omega
      have hlt2 : ¬ (blocksN bs.length : Int) < (blocksN bs.length : Int) := by omega
      clear hL hLl hhl
      simp -implicitDefEqProofs [hlt, hlt2, hLc]
      generalize hx : evLoopC _ _ _ _ _ _ _ _ _ _ = R
      apply loop_gen hx (fun a : List (List Int) × List Int => levS a.1 a.2)
        (fun a => (∀ L ∈ a.1, 1 ≤ L.length) ∧ 1 ≤ a.2.length ∧ a.2.length + a.1.length ≤ 1024 ∧ (a.1.map List.length).sum + 2 * a.2.length ≤ 2048 + a.1.length ∧ rootL a.2 = rootL L) (fun a => a.2.length) ([], L)
      case hI => exact ⟨by simp, by simp only; omega, by simp only [List.length_nil]; omega, by simp; omega, rfl⟩
      case hq => simp only; omega
      case ht => simp -implicitDefEqProofs [liveOf, coldOf, hLc, levS]
      case round =>
        rintro ⟨Ls, U⟩ ⟨hU0, hU1, hU2, hU3, hUr⟩ _
        clear hx
        simp only at hU0 hU1 hU2 hU3 hUr
        cases Ls with
        | nil =>
          by_cases hone : 1 < U.length
          · have hone2 : (1 : Int) < (U.length : Int) := by omega
            simp -implicitDefEqProofs [levS, hone, hone2]
            generalize hx : evLoopC _ _ _ _ _ _ _ _ _ _ = R
            apply loop_gen hx (fun a : Nat × List Int => (mkL 63 .junk [(3, .sl 0 0 U.length 1), (5, .sl 1 0 (1) 1), (6, ownV true 2 0 a.2.length 1), (7, .int .i64 (2 * (a.1 : Int)))], [some (.cells (flatE (intE .u64) U) false), some (.cells [.sl 0 0 U.length 1] true), ownB true a.2.length (flatE (intE .u64) a.2), none]))
              (fun a => 2 * a.1 ≤ U.length + 1 ∧ a.2 = upL (U.take (2 * a.1)) ∧ a.2.length = a.1) (fun a => U.length + 1 - 2 * a.1) (0, [])
            case hI => simp [upL]
            case hq => simp only; omega
            case ht => simp -implicitDefEqProofs [liveOf, coldOf]
            case round =>
              rintro ⟨j, Q⟩ ⟨hj, hQ, hQl⟩ _
              clear hx
              simp only at hj hQ hQl
              by_cases hlt : 2 * j < U.length
              · have hlt2 : 2 * (j : Int) < (U.length : Int) := by omega
                have e2 : addI .i64 (2 * (j : Int)) 1 = 2 * (j : Int) + 1 := addI_i64 (by omega) (by omega)
                have e3 : addI .i64 (2 * (j : Int)) 2 = 2 * ((j : Int) + 1) := by rw [addI_i64 (by omega) (by omega)]; omega
                have e4 : (2 * (j : Int)).toNat = 2 * j := by omega
                have e5 : (0 : Int) ≤ 2 * (j : Int) := by omega
                obtain ⟨ra, ha⟩ := at_nums .u64 U (2 * j) hlt
                have htk : (U.take (2 * j)).length = 2 * j := by simp; omega
                by_cases hlast : 2 * j + 1 = U.length
                · have hl2 : ¬ 2 * (j : Int) + 1 < (U.length : Int) := by omega
                  have hs : upL (U.take (2 * (j + 1))) = Q ++ [U[2 * j]] := by
                    have e : U.take (2 * (j + 1)) = U.take (2 * j) ++ [U[2 * j]] := by
                      rw [← List.take_succ_eq_append_getElem hlt, List.take_of_length_le (by omega), List.take_of_length_le (by omega)]
                    rw [e, upL_append j _ _ htk, ← hQ]; rfl
                  generalize U[2 * j] = a at *
                  cases hQ0 : Q.length with
                  | zero =>
                    have hj0 : j = 0 := by omega
                    subst hj0
                    omega
                  | succ q =>
                    have hb : (q + 1 + 1) * 8 ≤ 140737488355328 := by omega
                    simp -implicitDefEqProofs [hlt, hlt2, e2, e3, e4, e5, ha, hl2, hQ0, hb]
                    exact rnd_next (j + 1, Q ++ [a]) ⟨by simp only; omega, hs.symm, by simp only [List.length_append, List.length_singleton]; omega⟩ (by simp only; omega) (by simp -implicitDefEqProofs [liveOf, coldOf, hQ0])
                · have hlt1 : 2 * j + 1 < U.length := by omega
                  have hlt3 : 2 * (j : Int) + 1 < (U.length : Int) := by omega
                  have e6 : (2 * (j : Int) + 1).toNat = 2 * j + 1 := by omega
                  have e7 : (0 : Int) ≤ 2 * (j : Int) + 1 := by omega
                  obtain ⟨rb, hbb⟩ := at_nums .u64 U (2 * j + 1) hlt1
                  have hs : upL (U.take (2 * (j + 1))) = Q ++ [pairH U[2 * j] U[2 * j + 1]] := by
                    have e : U.take (2 * (j + 1)) = U.take (2 * j) ++ [U[2 * j], U[2 * j + 1]] := by
                      rw [show 2 * (j + 1) = 2 * j + 1 + 1 by omega, List.take_succ_eq_append_getElem hlt1, List.take_succ_eq_append_getElem hlt, List.append_assoc]; rfl
                    rw [e, upL_append j _ _ htk, ← hQ]; rfl
                  generalize U[2 * j] = a at *
                  generalize U[2 * j + 1] = b at *
                  have cpr := pair_ok a b (k := k) (by omega)
                  cases hQ0 : Q.length with
                  | zero =>
                    have hnil : Q = [] := List.length_eq_zero_iff.1 hQ0
                    subst hnil
                    simp -implicitDefEqProofs [hlt, hlt2, hlt3, e2, e3, e4, e5, e6, e7, ha, hbb, cpr]
                    exact rnd_next (j + 1, [pairH a b]) ⟨by simp only; omega, hs.symm, by simp only [List.length_singleton]; simp at hQl; omega⟩ (by simp only; omega) (by simp -implicitDefEqProofs [liveOf, coldOf])
                  | succ q =>
                    have hb : (q + 1 + 1) * 8 ≤ 140737488355328 := by omega
                    simp -implicitDefEqProofs [hlt, hlt2, hlt3, e2, e3, e4, e5, e6, e7, ha, hbb, cpr, hQ0, hb]
                    exact rnd_next (j + 1, Q ++ [pairH a b]) ⟨by simp only; omega, hs.symm, by simp only [List.length_append, List.length_singleton]; omega⟩ (by simp only; omega) (by simp -implicitDefEqProofs [liveOf, coldOf, hQ0])
              · have hlt2 : ¬ 2 * (j : Int) < (U.length : Int) := by omega
                have hup : Q = upL U := by rw [hQ, List.take_of_length_le (by omega)]
                have hul := upL_length U.length U (Nat.le_refl _)
                have hr2 := rootL_up U hone
                rw [← hup] at hul hr2
                obtain ⟨q, hq⟩ : ∃ q, Q.length = q + 1 := ⟨Q.length - 1, by omega⟩
                simp -implicitDefEqProofs [hlt, hlt2, hq]
                exact rnd_next ([U], Q) ⟨by simp only [List.mem_append, List.mem_cons, List.not_mem_nil, or_false]; intro X hX; subst hX; omega, by simp only; omega, by simp only [List.length_append, List.length_cons, List.length_nil, List.length_singleton] at hU2 ⊢; omega, by simp at hU3 ⊢; omega, by rw [hr2, hUr]⟩ (by simp only; omega) (by simp -implicitDefEqProofs [liveOf, coldOf, hq, levS, rosE_f])
          · obtain ⟨a, rfl⟩ : ∃ a, U = [a] := by
              match U, hU1, hone with
              | [a], _, _ => exact ⟨a, rfl⟩
              | a :: b :: r, _, h => exact absurd (by simp) h
            rw [rootL_one] at hUr
            simp -implicitDefEqProofs [levS, hUr]
            exact ⟨[], true, by simp at hU2 ⊢; try omega, hU0, by simp at hU2 hU3 ⊢; try omega, by simp⟩
        | cons L0 Ls =>
          by_cases hone : 1 < U.length
          · have hone2 : (1 : Int) < (U.length : Int) := by omega
            simp -implicitDefEqProofs [levS, hone, hone2]
            generalize hx : evLoopC _ _ _ _ _ _ _ _ _ _ = R
            apply loop_gen hx (fun a : Nat × List Int => (mkL 63 .junk [(3, .sl 0 0 U.length 1), (5, .sl 1 0 (Ls.length + 2) 1), (6, ownV true 2 0 a.2.length 1), (7, .int .i64 (2 * (a.1 : Int)))], [some (.cells (flatE (intE .u64) U) false), some (.cells (flatE rosE (L0 :: Ls) ++ [.sl 0 0 U.length 1]) false), ownB true a.2.length (flatE (intE .u64) a.2), none]))
              (fun a => 2 * a.1 ≤ U.length + 1 ∧ a.2 = upL (U.take (2 * a.1)) ∧ a.2.length = a.1) (fun a => U.length + 1 - 2 * a.1) (0, [])
            case hI => simp [upL]
            case hq => simp only; omega
            case ht => simp -implicitDefEqProofs [liveOf, coldOf]
            case round =>
              rintro ⟨j, Q⟩ ⟨hj, hQ, hQl⟩ _
              clear hx
              simp only at hj hQ hQl
              by_cases hlt : 2 * j < U.length
              · have hlt2 : 2 * (j : Int) < (U.length : Int) := by omega
                have e2 : addI .i64 (2 * (j : Int)) 1 = 2 * (j : Int) + 1 := addI_i64 (by omega) (by omega)
                have e3 : addI .i64 (2 * (j : Int)) 2 = 2 * ((j : Int) + 1) := by rw [addI_i64 (by omega) (by omega)]; omega
                have e4 : (2 * (j : Int)).toNat = 2 * j := by omega
                have e5 : (0 : Int) ≤ 2 * (j : Int) := by omega
                obtain ⟨ra, ha⟩ := at_nums .u64 U (2 * j) hlt
                have htk : (U.take (2 * j)).length = 2 * j := by simp; omega
                by_cases hlast : 2 * j + 1 = U.length
                · have hl2 : ¬ 2 * (j : Int) + 1 < (U.length : Int) := by omega
                  have hs : upL (U.take (2 * (j + 1))) = Q ++ [U[2 * j]] := by
                    have e : U.take (2 * (j + 1)) = U.take (2 * j) ++ [U[2 * j]] := by
                      rw [← List.take_succ_eq_append_getElem hlt, List.take_of_length_le (by omega), List.take_of_length_le (by omega)]
                    rw [e, upL_append j _ _ htk, ← hQ]; rfl
                  generalize U[2 * j] = a at *
                  cases hQ0 : Q.length with
                  | zero =>
                    have hj0 : j = 0 := by omega
                    subst hj0
                    omega
                  | succ q =>
                    have hb : (q + 1 + 1) * 8 ≤ 140737488355328 := by omega
                    simp -implicitDefEqProofs [hlt, hlt2, e2, e3, e4, e5, ha, hl2, hQ0, hb]
                    exact rnd_next (j + 1, Q ++ [a]) ⟨by simp only; omega, hs.symm, by simp only [List.length_append, List.length_singleton]; omega⟩ (by simp only; omega) (by simp -implicitDefEqProofs [liveOf, coldOf, hQ0])
                · have hlt1 : 2 * j + 1 < U.length := by omega
                  have hlt3 : 2 * (j : Int) + 1 < (U.length : Int) := by omega
                  have e6 : (2 * (j : Int) + 1).toNat = 2 * j + 1 := by omega
                  have e7 : (0 : Int) ≤ 2 * (j : Int) + 1 := by omega
                  obtain ⟨rb, hbb⟩ := at_nums .u64 U (2 * j + 1) hlt1
                  have hs : upL (U.take (2 * (j + 1))) = Q ++ [pairH U[2 * j] U[2 * j + 1]] := by
                    have e : U.take (2 * (j + 1)) = U.take (2 * j) ++ [U[2 * j], U[2 * j + 1]] := by
                      rw [show 2 * (j + 1) = 2 * j + 1 + 1 by omega, List.take_succ_eq_append_getElem hlt1, List.take_succ_eq_append_getElem hlt, List.append_assoc]; rfl
                    rw [e, upL_append j _ _ htk, ← hQ]; rfl
                  generalize U[2 * j] = a at *
                  generalize U[2 * j + 1] = b at *
                  have cpr := pair_ok a b (k := k) (by omega)
                  cases hQ0 : Q.length with
                  | zero =>
                    have hnil : Q = [] := List.length_eq_zero_iff.1 hQ0
                    subst hnil
                    simp -implicitDefEqProofs [hlt, hlt2, hlt3, e2, e3, e4, e5, e6, e7, ha, hbb, cpr]
                    exact rnd_next (j + 1, [pairH a b]) ⟨by simp only; omega, hs.symm, by simp only [List.length_singleton]; simp at hQl; omega⟩ (by simp only; omega) (by simp -implicitDefEqProofs [liveOf, coldOf])
                  | succ q =>
                    have hb : (q + 1 + 1) * 8 ≤ 140737488355328 := by omega
                    simp -implicitDefEqProofs [hlt, hlt2, hlt3, e2, e3, e4, e5, e6, e7, ha, hbb, cpr, hQ0, hb]
                    exact rnd_next (j + 1, Q ++ [pairH a b]) ⟨by simp only; omega, hs.symm, by simp only [List.length_append, List.length_singleton]; omega⟩ (by simp only; omega) (by simp -implicitDefEqProofs [liveOf, coldOf, hQ0])
              · have hlt2 : ¬ 2 * (j : Int) < (U.length : Int) := by omega
                have hup : Q = upL U := by rw [hQ, List.take_of_length_le (by omega)]
                have hul := upL_length U.length U (Nat.le_refl _)
                have hr2 := rootL_up U hone
                rw [← hup] at hul hr2
                obtain ⟨q, hq⟩ : ∃ q, Q.length = q + 1 := ⟨Q.length - 1, by omega⟩
                have hb : (Ls.length + 2 + 1) * 24 ≤ 140737488355328 := by simp at hU2; omega
                have h9 : 1 + (Ls.length + 1) = Ls.length + 2 := by omega
                have h8 : (Ls.length + 2) * 1 = Ls.length + 2 := by omega
                simp -implicitDefEqProofs [hlt, hlt2, hq, hb, h9]
                exact rnd_next (L0 :: (Ls ++ [U]), Q) ⟨by simp only [List.mem_append, List.mem_cons, List.not_mem_nil, or_false]; intro X hX; rcases hX with h | h | h <;> first | (subst h; omega) | exact hU0 _ (by simp [h]), by simp only; omega, by simp only [List.length_append, List.length_cons, List.length_nil, List.length_singleton] at hU2 ⊢; omega, by simp at hU3 ⊢; omega, by rw [hr2, hUr]⟩ (by simp only; omega) (by simp -implicitDefEqProofs [liveOf, coldOf, hq, levS, rosE_f, h9])
          · obtain ⟨a, rfl⟩ : ∃ a, U = [a] := by
              match U, hU1, hone with
              | [a], _, _ => exact ⟨a, rfl⟩
              | a :: b :: r, _, h => exact absurd (by simp) h
            rw [rootL_one] at hUr
            simp -implicitDefEqProofs [levS, hUr]
            exact ⟨L0 :: Ls, false, by simp at hU2 ⊢; try omega, hU0, by simp at hU2 hU3 ⊢; try omega, by simp⟩
end Go.Ev.Try

/-
  THE REDACT SEAT: redact.Root (own work).
-/
import Derived.Test.YtnalmdnfoicokaaRdL
set_option linter.unusedSimpArgs false
set_option linter.unusedVariables false
set_option maxRecDepth 100000
set_option maxHeartbeats 4000000
namespace Go.Ev.Try
open Go Go.Ev Go.Proofs

noncomputable def hashOf (p : Piece) : Int := if p.hid then p.hash else hash p.bs
noncomputable def pairH (a b : Int) : Int := hash (numL a ++ numL b)
noncomputable def upL : List Int → List Int
  | [] => []
  | [a] => [a]
  | a :: b :: r => pairH a b :: upL r
theorem upL_append : ∀ (n : Nat) (l r : List Int), l.length = 2 * n → upL (l ++ r) = upL l ++ upL r
  | 0, l, r, h => by rw [List.length_eq_zero_iff.1 (by omega : l.length = 0)]; rfl
  | n + 1, l, r, h => by
    match l, h with
    | a :: b :: l, h =>
      simp only [List.cons_append, upL]
      rw [upL_append n l r (by simp at h; omega)]
theorem upL_length : ∀ (n : Nat) (l : List Int), l.length ≤ n → (upL l).length = (l.length + 1) / 2
  | _, [], _ => rfl
  | _, [a], _ => by simp [upL]
  | 0, a :: b :: r, h => by simp at h
  | n + 1, a :: b :: r, h => by
    simp only [upL, List.length_cons]
    rw [upL_length n r (by simp at h; omega)]
    omega
noncomputable def rootN : Nat → List Int → Int
  | 0, l => l.headD 0
  | f + 1, l => if l.length ≤ 1 then l.headD 0 else rootN f (upL l)
noncomputable def rootL (l : List Int) : Int := rootN l.length l
theorem rootN_any : ∀ (f g : Nat) (l : List Int), l.length ≤ f + 1 → l.length ≤ g + 1 → rootN f l = rootN g l
  | 0, 0, l, _, _ => rfl
  | 0, g + 1, l, h, _ => by rw [rootN, rootN, if_pos (by omega)]
  | f + 1, 0, l, _, h => by rw [rootN, rootN, if_pos (by omega)]
  | f + 1, g + 1, l, h1, h2 => by
    rw [rootN, rootN]
    split
    · rfl
    · have := upL_length l.length l (Nat.le_refl _)
      exact rootN_any f g _ (by omega) (by omega)
theorem rootL_up (l : List Int) (h : 1 < l.length) : rootL (upL l) = rootL l := by
  unfold rootL
  obtain ⟨n, hn⟩ : ∃ n, l.length = n + 1 := ⟨l.length - 1, by omega⟩
  rw [hn, rootN, if_neg (by omega)]
  have := upL_length l.length l (Nat.le_refl _)
  exact rootN_any _ _ _ (by omega) (by omega)
theorem rootL_one (a : Int) : rootL [a] = a := rfl

theorem allOk_len {n : Nat} {ps : List Piece} (h : allOk n ps = true) : ∀ p ∈ ps, p.bs.length ≤ 64 := fun p hp => by
  obtain ⟨i, hi, rfl⟩ := List.mem_iff_getElem.1 hp
  have := (allOk_iff n ps).1 h i hi
  unfold pieceOk at this
  split at this
  · rw [List.isEmpty_iff] at this; rw [this]; simp
  · simp only [Bool.and_eq_true, decide_eq_true_eq] at this
    have h2 := this.2
    unfold placeL at h2
    omega

/-- Elements of a list of numbers, loaded. -/
theorem at_nums (k : IntKind) (L : List Int) (j : Nat) (h : j < L.length) : ∃ r, List.drop j (flatE (intE k) L) = .int k L[j] :: r := by
  refine ⟨flatE (intE k) (L.drop (j + 1)), ?_⟩
  rw [drop_flatE1 (intE k) rfl, List.drop_eq_getElem_cons h]; rfl

set_option maxHeartbeats 8000000 in
theorem root_ok (n : Nat) (ps : List Piece) (zp : Bool) (hn : n ≤ 65536) (hl : ps.length = blocksN n) (hall : allOk n ps = true) {k : Nat} (hk : 3000 < k) :
    evF Try.prog Γ (k + 1) 18 [.agg [.int .i64 n, roV zp ps.length (flatE pieceE ps)]] [] = some (.tup [.int .u64 (rootL (ps.map hashOf)), .int .i64 0], []) := by
  obtain ⟨k, rfl⟩ : ∃ j, k = j + 1 := ⟨k - 1, by omega⟩
  have hB : blocksN n ≤ 1024 := by unfold blocksN; omega
  have hB1 := blocksN_pos n
  have hbl := allOk_len hall
  have cc := exCheck_ok n ps zp (fun p hp => by have := hbl p hp; omega) (by omega) (k := k) (by omega)
  have hcr : checkR n ps = 0 := by
    unfold checkR
    rw [if_neg (by omega), if_pos ⟨by simpa using hl, by simpa using hall⟩]
  rw [hcr] at cc
  rw [b18 (fun _ _ => rfl) _ _ (by simp)]
  simp -implicitDefEqProofs [cc]
  generalize hx : evLoopC _ _ _ _ _ _ _ _ _ _ = R
  apply loop_gen hx (fun a : Nat × List Int => (mkL 77 .junk [(5, ownV true 0 0 a.2.length 1), (16, roV zp ps.length (flatE pieceE ps)), (17, .int .i64 ps.length), (18, .int .i64 a.1)], [ownB true a.2.length (flatE (intE .u64) a.2), none]))
    (fun a => a.1 ≤ ps.length ∧ a.2 = (ps.map hashOf).take a.1) (fun a => ps.length - a.1) (0, [])
  case hI => simp
  case hq => simp only; omega
  case ht => simp -implicitDefEqProofs [liveOf, coldOf]
  case round =>
    rintro ⟨i, L⟩ ⟨hi, hL⟩ _
    clear hx
    simp only at hi hL
    have hLl : L.length = i := by rw [hL]; simp; omega
    by_cases hlt : i < ps.length
    · have hlt2 : (i : Int) < (ps.length : Int) := by omega
      have e2 : addI .i64 (i : Int) 1 = (i : Int) + 1 := addI_i64 (by omega) (by omega)
      have ms := at_pieces ps i hlt
      have h5 : 3 ≤ ps.length * 3 - i * 3 := by omega
      have hs : (ps.map hashOf).take (i + 1) = L ++ [hashOf ps[i]] := by rw [List.take_succ_eq_append_getElem (by simpa using hlt), ← hL, List.getElem_map]
      have hpb := hbl _ (List.getElem_mem hlt)
      generalize ps[i] = p at *
      obtain ⟨hid, z, bs, h⟩ := p
      simp only at hpb ms
      have ch := hash_ok bs z (by omega) (k := k) (by omega)
      cases hL0 : L.length with
      | zero =>
        have hnil : L = [] := List.length_eq_zero_iff.1 hL0
        subst hnil
        have hi0 : i = 0 := by simpa using hLl.symm
        subst hi0
        cases hid with
        | true =>
          simp at ms e2
          simp -implicitDefEqProofs [hlt, hlt2, e2, ms, h5]
          exact rnd_next (1, [h]) ⟨hlt, hs.symm⟩ (by simp only; omega) (by simp -implicitDefEqProofs [liveOf, coldOf])
        | false =>
          simp at ms e2
          simp -implicitDefEqProofs [hlt, hlt2, e2, ms, h5, ch]
          exact rnd_next (1, [hash bs]) ⟨hlt, hs.symm⟩ (by simp only; omega) (by simp -implicitDefEqProofs [liveOf, coldOf])
      | succ c =>
        have hb : (c + 1 + 1) * 8 ≤ 140737488355328 := by omega
        cases hid with
        | true =>
          simp -implicitDefEqProofs [hlt, hlt2, e2, ms, h5, hL0, hb]
          exact rnd_next (i + 1, L ++ [h]) ⟨hlt, hs.symm⟩ (by simp only; omega) (by simp -implicitDefEqProofs [liveOf, coldOf, hL0])
        | false =>
          simp -implicitDefEqProofs [hlt, hlt2, e2, ms, h5, ch, hL0, hb]
          exact rnd_next (i + 1, L ++ [hash bs]) ⟨hlt, hs.symm⟩ (by simp only; omega) (by simp -implicitDefEqProofs [liveOf, coldOf, hL0])
    · have hi' : i = ps.length := by omega
      subst hi'
      rw [List.take_of_length_le (by simp)] at hL
      obtain ⟨c, hc⟩ : ∃ c, ps.length = c + 1 := ⟨ps.length - 1, by omega⟩
      rw [← hL]
      have hLc : L.length = c + 1 := by omega
      have hc2 : c + 1 ≤ 1024 := by omega
      clear hL hLl
      simp -implicitDefEqProofs [hlt, hLc]
      generalize hx : evLoopC _ _ _ _ _ _ _ _ _ _ = R
      apply loop_gen hx (fun U : List Int => (mkL 77 .junk [(5, .sl 0 0 U.length 1)], [some (.cells (flatE (intE .u64) U) false)]))
        (fun U => 1 ≤ U.length ∧ U.length ≤ 1024 ∧ rootL U = rootL L) (fun U => U.length) L
      case hI => exact ⟨by omega, by omega, rfl⟩
      case hq => omega
      case ht => simp -implicitDefEqProofs [liveOf, coldOf, hLc]
      case round =>
        rintro U ⟨hU1, hU2, hUr⟩ _
        clear hx
        by_cases hone : 1 < U.length
        · have hone2 : (1 : Int) < (U.length : Int) := by omega
          simp -implicitDefEqProofs [hone, hone2]
          generalize hx : evLoopC _ _ _ _ _ _ _ _ _ _ = R
          apply loop_gen hx (fun a : Nat × List Int => (mkL 77 .junk [(5, .sl 0 0 U.length 1), (8, ownV true 1 0 a.2.length 1), (9, .int .i64 (2 * (a.1 : Int)))], [some (.cells (flatE (intE .u64) U) false), ownB true a.2.length (flatE (intE .u64) a.2)]))
            (fun a => 2 * a.1 ≤ U.length + 1 ∧ a.2 = upL (U.take (2 * a.1)) ∧ a.2.length = a.1) (fun a => U.length + 1 - 2 * a.1) (0, [])
          case hI => simp [upL]
          case hq => simp only; omega
          case ht => simp -implicitDefEqProofs [liveOf, coldOf]
          case round =>
            rintro ⟨j, Q⟩ ⟨hj, hQ, hQl⟩ _
            clear hx
            simp only at hj hQ hQl
            by_cases hlt : 2 * j < U.length
            · have hlt2 : 2 * (j : Int) < (U.length : Int) := by omega
              have e2 : addI .i64 (2 * (j : Int)) 1 = 2 * (j : Int) + 1 := addI_i64 (by omega) (by omega)
              have e3 : addI .i64 (2 * (j : Int)) 2 = 2 * ((j : Int) + 1) := by rw [addI_i64 (by omega) (by omega)]; omega
              have e4 : (2 * (j : Int)).toNat = 2 * j := by omega
              have e5 : (0 : Int) ≤ 2 * (j : Int) := by omega
              obtain ⟨ra, ha⟩ := at_nums .u64 U (2 * j) hlt
              have htk : (U.take (2 * j)).length = 2 * j := by simp; omega
              by_cases hlast : 2 * j + 1 = U.length
              · have hl2 : 2 * (j : Int) + 1 = (U.length : Int) := by omega
                have hs : upL (U.take (2 * (j + 1))) = Q ++ [U[2 * j]] := by
                  have e : U.take (2 * (j + 1)) = U.take (2 * j) ++ [U[2 * j]] := by
                    rw [← List.take_succ_eq_append_getElem hlt, List.take_of_length_le (by omega), List.take_of_length_le (by omega)]
                  rw [e, upL_append j _ _ htk, ← hQ]; rfl
                generalize U[2 * j] = a at *
                cases hQ0 : Q.length with
                | zero =>
                  have hnil : Q = [] := List.length_eq_zero_iff.1 hQ0
                  subst hnil
                  have hj0 : j = 0 := by simpa using hQl.symm
                  subst hj0
                  omega
                | succ q =>
                  have hb : (q + 1 + 1) * 8 ≤ 140737488355328 := by omega
                  simp -implicitDefEqProofs [hlt, hlt2, e2, e3, e4, e5, ha, hl2, hQ0, hb]
                  exact rnd_next (j + 1, Q ++ [a]) ⟨by simp only; omega, hs.symm, by simp only [List.length_append, List.length_singleton]; omega⟩ (by simp only; omega) (by simp -implicitDefEqProofs [liveOf, coldOf, hQ0])
              · have hl2 : ¬ 2 * (j : Int) + 1 = (U.length : Int) := by omega
                have hlt1 : 2 * j + 1 < U.length := by omega
                have hlt3 : 2 * (j : Int) + 1 < (U.length : Int) := by omega
                have e6 : (2 * (j : Int) + 1).toNat = 2 * j + 1 := by omega
                have e7 : (0 : Int) ≤ 2 * (j : Int) + 1 := by omega
                obtain ⟨rb, hbb⟩ := at_nums .u64 U (2 * j + 1) hlt1
                have hs : upL (U.take (2 * (j + 1))) = Q ++ [pairH U[2 * j] U[2 * j + 1]] := by
                  have e : U.take (2 * (j + 1)) = U.take (2 * j) ++ [U[2 * j], U[2 * j + 1]] := by
                    rw [show 2 * (j + 1) = 2 * j + 1 + 1 by omega, List.take_succ_eq_append_getElem hlt1, List.take_succ_eq_append_getElem hlt, List.append_assoc]; rfl
                  rw [e, upL_append j _ _ htk, ← hQ]; rfl
                generalize U[2 * j] = a at *
                generalize U[2 * j + 1] = b at *
                have na := number_ok a (k := k) (by omega)
                have nb := number_ok b (k := k) (by omega)
                have nc := concat_ok (numL a) (numL b) (numL_length a) (numL_length b) (k := k) (by omega)
                have nl : (numL a ++ numL b).length = 16 := by simp [numL_length]
                have nh := hash_ok (numL a ++ numL b) false (by omega) (k := k) (by omega)
                rw [nl] at nh
                simp at nh
                have la := numL_length a
                have lb := numL_length b
                have ta : List.take 8 (flatE (intE .u8) (numL a)) = flatE (intE .u8) (numL a) := by rw [List.take_of_length_le]; simp [la]
                have tb : List.take 8 (flatE (intE .u8) (numL b)) = flatE (intE .u8) (numL b) := by rw [List.take_of_length_le]; simp [lb]
                have tc : List.take 16 (flatE (intE .u8) (numL a) ++ flatE (intE .u8) (numL b)) = flatE (intE .u8) (numL a) ++ flatE (intE .u8) (numL b) := by rw [List.take_of_length_le]; simp [la, lb]
                cases hQ0 : Q.length with
                | zero =>
                  have hnil : Q = [] := List.length_eq_zero_iff.1 hQ0
                  subst hnil
                  simp -implicitDefEqProofs [hlt, hlt2, hlt3, e2, e3, e4, e5, e6, e7, ha, hbb, hl2, na, nb, nc, nh, ta, tb, tc, la, lb]
                  exact rnd_next (j + 1, [pairH a b]) ⟨by simp only; omega, hs.symm, by simp only [List.length_singleton]; simp at hQl; omega⟩ (by simp only; omega) (by simp -implicitDefEqProofs [liveOf, coldOf, pairH])
                | succ q =>
                  have hb : (q + 1 + 1) * 8 ≤ 140737488355328 := by omega
                  simp -implicitDefEqProofs [hlt, hlt2, hlt3, e2, e3, e4, e5, e6, e7, ha, hbb, hl2, na, nb, nc, nh, ta, tb, tc, la, lb, hQ0, hb]
                  exact rnd_next (j + 1, Q ++ [pairH a b]) ⟨by simp only; omega, hs.symm, by simp only [List.length_append, List.length_singleton]; omega⟩ (by simp only; omega) (by simp -implicitDefEqProofs [liveOf, coldOf, hQ0, pairH])
            · have hlt2 : ¬ 2 * (j : Int) < (U.length : Int) := by omega
              have hup : Q = upL U := by rw [hQ, List.take_of_length_le (by omega)]
              have hj1 : 1 ≤ j := by omega
              have hul := upL_length U.length U (Nat.le_refl _)
              have hr2 := rootL_up U hone
              obtain ⟨q, hq⟩ : ∃ q, Q.length = q + 1 := ⟨Q.length - 1, by omega⟩
              simp -implicitDefEqProofs [hlt, hlt2, hq]
              exact rnd_next Q ⟨by omega, by rw [hup]; omega, by rw [hup, hr2, hUr]⟩ (by rw [hup]; omega) (by simp -implicitDefEqProofs [liveOf, coldOf, hq])
        · obtain ⟨a, rfl⟩ : ∃ a, U = [a] := by
            match U, hU1, hone with
            | [a], _, _ => exact ⟨a, rfl⟩
            | a :: b :: r, _, h => exact absurd (by simp) h
          rw [rootL_one] at hUr
          simp -implicitDefEqProofs [hUr]
end Go.Ev.Try

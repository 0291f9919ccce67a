/-
  THE REDACT SEAT: the reference's RootOf (own work).
-/
import Derived.Test.YtnalmdnfoicokaaRdM
import Derived.Test.YtnalmdnfoicokaaRmC0
set_option linter.unusedSimpArgs false
set_option linter.unusedVariables false
set_option maxRecDepth 100000
set_option maxHeartbeats 8000000
namespace Go.Ev.Try
open Go Go.Ev Go.Proofs

theorem rootL_up' (l : List Int) : rootL (upL l) = rootL l := by
  match l with
  | [] => rfl
  | [a] => rfl
  | a :: b :: r => exact rootL_up _ (by simp)
theorem root_split : ∀ (e : Nat) (l : List Int), 2 ^ e < l.length → l.length ≤ 2 ^ (e + 1) → rootL l = pairH (rootL (l.take (2 ^ e))) (rootL (l.drop (2 ^ e)))
  | 0, l, h1, h2 => by
    match l, h1, h2 with
    | [a, b], _, _ => rfl
    | a :: b :: c :: r, _, h => simp at h
  | e + 1, l, h1, h2 => by
    have hp : 2 ^ (e + 1) = 2 * 2 ^ e := by rw [Nat.pow_succ, Nat.mul_comm]
    have hp2 : 2 ^ (e + 1 + 1) = 2 * 2 ^ (e + 1) := by rw [Nat.pow_succ, Nat.mul_comm]
    have hpos : 0 < 2 ^ e := Nat.pow_pos (by omega)
    have hl := upL_length l.length l (Nat.le_refl _)
    have ht : (l.take (2 ^ (e + 1))).length = 2 * 2 ^ e := by rw [List.length_take]; omega
    have hu : upL l = upL (l.take (2 ^ (e + 1))) ++ upL (l.drop (2 ^ (e + 1))) := by
      rw [← upL_append (2 ^ e) _ _ ht, List.take_append_drop]
    have hul : (upL (l.take (2 ^ (e + 1)))).length = 2 ^ e := by rw [upL_length _ _ (Nat.le_refl _), ht]; omega
    have ih := root_split e (upL l) (by omega) (by omega)
    rw [rootL_up'] at ih
    rw [ih, hu, List.take_left' hul, List.drop_left' hul, rootL_up', rootL_up']

theorem rootOf_ok : ∀ (N : Nat) (ps : List Piece) (zp : Bool) {k : Nat}, 1 ≤ ps.length → ps.length ≤ N → N ≤ 2000 → (∀ p ∈ ps, p.bs.length ≤ 64) → 500 + N < k →
    evF Try.prog Γ (k + 1) 23 [roV zp ps.length (flatE pieceE ps)] [] = some (.int .u64 (rootL (ps.map hashOf)), [])
  | 0, ps, zp, k, h1, h2, _, _, _ => by omega
  | N + 1, ps, zp, k, h1, h2, hN, hb, hk => by
    obtain ⟨k, rfl⟩ : ∃ j, k = j + 1 := ⟨k - 1, by omega⟩
    rw [b23 (fun _ _ => rfl) _ _ (by simp)]
    by_cases hone : ps.length = 1
    · obtain ⟨p, rfl⟩ : ∃ p, ps = [p] := by
        match ps, hone with
        | [p], _ => exact ⟨p, rfl⟩
      have hpb := hb p (by simp)
      obtain ⟨hd, z, bs, h⟩ := p
      simp only at hpb
      have ch := hash_ok bs z (by omega) (k := k) (by omega)
      cases hd with
      | true => simp -implicitDefEqProofs [pieceE_f, rootL_one, hashOf]
      | false => simp -implicitDefEqProofs [pieceE_f, rootL_one, hashOf, ch]
    · have hone2 : ¬ (ps.length : Int) = 1 := by omega
      simp -implicitDefEqProofs [hone, hone2]
      generalize hx : evLoopC _ _ _ _ _ _ _ _ _ _ = R
      apply loop_gen hx (fun e : Nat => (mkL 39 .junk [(0, roV zp ps.length (flatE pieceE ps)), (3, .int .i64 ((2 ^ e : Nat) : Int))], [none])) (fun e => 2 ^ e < ps.length) (fun e => ps.length - 2 ^ e) 0
      case hI => simp; omega
      case hq => omega
      case ht => simp -implicitDefEqProofs [liveOf, coldOf]
      case round =>
        rintro e hI _
        clear hx
        have hpos : 0 < 2 ^ e := Nat.pow_pos (by omega)
        have hp : 2 ^ (e + 1) = 2 * 2 ^ e := by rw [Nat.pow_succ, Nat.mul_comm]
        have hsp := root_split e (ps.map hashOf) (by simpa using hI)
        generalize hM : 2 ^ e = M at *
        have e1 : mulI .i64 2 (M : Int) = 2 * (M : Int) := mulI_i64 (by omega) (by omega)
        by_cases hlt : 2 * M < ps.length
        · have hlt2 : 2 * (M : Int) < (ps.length : Int) := by omega
          have e2 : mulI .i64 (M : Int) 2 = ((2 ^ (e + 1) : Nat) : Int) := by rw [mulI_i64 (by omega) (by omega), hp]; omega
          simp -implicitDefEqProofs [hlt, hlt2, e1, e2]
          have hI1 : 2 ^ (e + 1) < ps.length := by omega
          have hM1 : ps.length - 2 ^ (e + 1) < ps.length - 2 ^ e := by omega
          exact rnd_next (e + 1) hI1 hM1 (by simp -implicitDefEqProofs [liveOf, coldOf])
        · have hlt2 : ¬ 2 * (M : Int) < (ps.length : Int) := by omega
          have hsp2 := hsp (by simp; omega)
          rw [← List.map_take, ← List.map_drop] at hsp2
          have cl := rootOf_ok N (ps.take M) false (k := k) (by rw [List.length_take]; omega) (by rw [List.length_take]; omega) (by omega) (fun p hp => hb p (List.mem_of_mem_take hp)) (by omega)
          have cr := rootOf_ok N (ps.drop M) false (k := k) (by rw [List.length_drop]; omega) (by rw [List.length_drop]; omega) (by omega) (fun p hp => hb p (List.mem_of_mem_drop hp)) (by omega)
          rw [List.length_take, Nat.min_eq_left (by omega)] at cl
          rw [List.length_drop] at cr
          generalize rootL ((ps.take M).map hashOf) = a at *
          generalize rootL ((ps.drop M).map hashOf) = b at *
          have na := number_ok a (k := k) (by omega)
          have nb := number_ok b (k := k) (by omega)
          have nl : (numL a ++ numL b).length = 16 := by simp [numL_length]
          have nh := hash_ok (numL a ++ numL b) false (by omega) (k := k) (by omega)
          rw [nl] at nh
          simp at nh cl cr
          have la := numL_length a
          have lb := numL_length b
          have ta : List.take 8 (flatE (intE .u8) (numL a)) = flatE (intE .u8) (numL a) := by rw [List.take_of_length_le]; simp [la]
          have tb : List.take 8 (flatE (intE .u8) (numL b)) = flatE (intE .u8) (numL b) := by rw [List.take_of_length_le]; simp [lb]
          have tc : List.take 16 (flatE (intE .u8) (numL a) ++ flatE (intE .u8) (numL b)) = flatE (intE .u8) (numL a) ++ flatE (intE .u8) (numL b) := by rw [List.take_of_length_le]; simp [la, lb]
          have w1 : List.take (M * 3) (flatE pieceE ps) = flatE pieceE (ps.take M) := take_flatE' (n := 3) pieceE rfl ps M
          have w2 : List.take ((ps.length - M) * 3) (List.drop (M * 3) (flatE pieceE ps)) = flatE pieceE (ps.drop M) := by rw [drop_flatE' (n := 3) pieceE rfl, List.take_of_length_le]; simp
          have hz1 : (zp && ps.length == 0) = false := by have : ¬ ps.length = 0 := by omega
                                                          simp [this]
          have hle : M ≤ ps.length := by omega
          have hle2 : (M : Int) ≤ (ps.length : Int) := by omega
          have h0 : ¬ ps.length = 0 := by omega
          have h0b : (ps.length == 0) = false := by simpa using h0
          simp -implicitDefEqProofs [hlt, hlt2, e1, cl, cr, na, nb, nh, la, lb, ta, tb, tc, w1, w2, hle, hle2, h0, h0b, hsp2, pairH]
end Go.Ev.Try

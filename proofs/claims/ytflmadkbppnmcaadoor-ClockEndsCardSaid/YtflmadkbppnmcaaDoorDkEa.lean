/-
  THE CLOCK DOOR SEAT: ends of intervals, ClockEnds' walk (own work).
-/
import Derived.Test.YtflmadkbppnmcaaDoorDkOr
import Derived.Test.YtflmadkbppnmcaaDoorDkC8
import Derived.Test.YtflmadkbppnmcaaDoorDkBf
import Derived.Test.YtflmadkbppnmcaaDoorDkBo
set_option linter.unusedSimpArgs false
set_option linter.unusedVariables false
set_option maxRecDepth 100000
set_option maxHeartbeats 4000000
namespace Go.Ev.Tryd
open Go Go.Ev Go.Proofs

def sel (c : Bool) (p : Int × Int) : Int := if c then p.2 else p.1
def sels (c : Bool) (l : List (Int × Int)) : List Int := l.map (sel c)
@[simp] theorem sels_length (c : Bool) (l : List (Int × Int)) : (sels c l).length = l.length := by simp [sels]
theorem sels_take (c : Bool) (l : List (Int × Int)) (i : Nat) (h : i < l.length) : (sels c l).take (i + 1) = (sels c l).take i ++ [sel c l[i]] := by
  rw [List.take_succ_eq_append_getElem (by simpa using h)]; simp [sels]
theorem sels_false (l : List (Int × Int)) : sels false l = fsts l := rfl

theorem ends_ok (l : List (Int × Int)) (z c : Bool) (hl : l.length ≤ 1000) {k : Nat} (hk : l.length + 10 < k) :
    evF Tryd.prog Γ (k + 1) 19 [roV z l.length (flatE pairE l), .int .i64 (if c then 1 else 0)] [] = some (ownV true 0 0 l.length 1, [ownB true l.length (flatE (intE .i64) (sels c l))]) := by
  rw [b19 (fun _ _ => rfl) _ _ (by simp)]
  simp -implicitDefEqProofs
  generalize hx : evLoopC _ _ _ _ _ _ _ _ _ _ = R
  apply loop_gen hx (fun i : Nat => (mkL 22 .junk [(1, .int .i64 (if c then 1 else 0)), (5, ownV true 0 0 i 1), (8, roV z l.length (flatE pairE l)), (9, .int .i64 l.length), (10, .int .i64 i)], [ownB true i (flatE (intE .i64) ((sels c l).take i)), none]))
    (fun i => i ≤ l.length) (fun i => l.length - i) 0
  case hI => simp
  case hq => omega
  case ht => simp -implicitDefEqProofs [liveOf]
  case round =>
    rintro i hi _
    clear hx
    by_cases hlt : i < l.length
    · have e2 : addI .i64 (i : Int) 1 = (i : Int) + 1 := addI_i64 (by omega) (by omega)
      have hat : List.take 2 (List.drop (i * 2) (flatE pairE l)) = [.int .i64 l[i].1, .int .i64 l[i].2] := at_flatE pairE rfl l i hlt
      have hs := sels_take c l i hlt
      have hlen : ((sels c l).take i).length = i := by simp; omega
      obtain ⟨n, hn⟩ : ∃ n, l.length = n + 1 := ⟨l.length - 1, by omega⟩
      have hlt2 : (i : Int) < (n : Int) + 1 := by omega
      generalize l[i] = p at *
      generalize (sels c l).take i = S at *
      cases i with
      | zero =>
        obtain rfl : S = [] := List.eq_nil_of_length_eq_zero hlen
        have hat : List.take 2 (flatE pairE l) = [.int .i64 p.1, .int .i64 p.2] := by simpa using hat
        have e2 : addI .i64 0 1 = 1 := addI_i64 (by omega) (by omega)
        cases c
        · simp -implicitDefEqProofs [hlt, hlt2, e2, hat, hn, roV_pos]
          exact rnd_next 1 (by omega) (by omega) (by simp -implicitDefEqProofs [liveOf, hs, sel])
        · simp -implicitDefEqProofs [hlt, hlt2, e2, hat, hn, roV_pos]
          exact rnd_next 1 (by omega) (by omega) (by simp -implicitDefEqProofs [liveOf, hs, sel])
      | succ q =>
        have hlt3 : q < n := by omega
        have hq0 : (0 : Int) ≤ (q : Int) + 1 := by omega
        have e3 : addI .i64 ((q : Int) + 1) 1 = (q : Int) + 1 + 1 := addI_i64 (by omega) (by omega)
        have hb : (q + 1 + 1) * 8 ≤ 140737488355328 := by omega
        cases c
        · simp -implicitDefEqProofs [hlt, hlt2, e2, hat, hn, roV_pos, hlen, hb, hlt3, hq0, e3]
          exact rnd_next (q + 1 + 1) (by omega) (by omega) (by simp -implicitDefEqProofs [liveOf, hs, sel])
        · simp -implicitDefEqProofs [hlt, hlt2, e2, hat, hn, roV_pos, hlen, hb, hlt3, hq0, e3]
          exact rnd_next (q + 1 + 1) (by omega) (by omega) (by simp -implicitDefEqProofs [liveOf, hs, sel])
    · have hi' : i = l.length := by omega
      subst hi'
      have ht : (sels c l).take l.length = sels c l := List.take_of_length_le (by simp)
      have hlen : (sels c l).length = l.length := by simp
      cases hn : l.length with
      | zero => simp -implicitDefEqProofs [hn]
      | succ n =>
        rw [hn] at ht hlen hlt
        simp -implicitDefEqProofs [hlt, hn, ht, hlen]
end Go.Ev.Tryd

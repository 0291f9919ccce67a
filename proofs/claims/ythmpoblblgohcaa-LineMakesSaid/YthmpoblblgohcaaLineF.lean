/-
  THE LINE SEAT: IndexFunc, Tracks (own work).
-/
import Derived.Test.YthmpoblblgohcaaLineE
set_option linter.unusedSimpArgs false
set_option linter.unusedVariables false
set_option maxRecDepth 100000
set_option maxHeartbeats 4000000
namespace Go.Ev.Try
open Go Go.Ev Go.Proofs

/-- The first track that is free. -/
def free (E : List Int) (x : Int) : Option Nat := E.findIdx? (fun e => decide (e < x))
def freeI (E : List Int) (x : Int) : Int := match free E x with | some i => i | none => -1

theorem closure_ok (m : Mark) (x : Int) {k : Nat} :
    evF Try.prog Γ (k + 1) 36 [.int .i64 x, .ro [.int .i64 m.id, .int .i64 m.low, .int .i64 m.high]] [] = some (.bool (decide (x < m.low)), []) := by
  rw [b36 (fun _ _ => rfl) _ _ (by simp)]
  simp -implicitDefEqProofs

theorem index_ok (E : List Int) (m : Mark) (z : Bool) (hE : E.length ≤ 400) {k : Nat} (hk : 1000 < k) :
    evF Try.prog Γ (k + 1) 35 [roV z E.length (flatE (intE .i64) E), .fn (.func 36) [] [.ro [.int .i64 m.id, .int .i64 m.low, .int .i64 m.high]]] [] = some (.int .i64 (freeI E m.low), []) := by
  obtain ⟨k, rfl⟩ : ∃ j, k = j + 1 := ⟨k - 1, by omega⟩
  have c := fun x => closure_ok m x (k := k)
  rw [b35 (fun _ _ => rfl) _ _ (by simp)]
  simp -implicitDefEqProofs
  generalize hx : evLoopC _ _ _ _ _ _ _ _ _ _ = R
  apply loop_gen hx (fun i : Nat => (mkL 19 .junk [(0, roV z E.length (flatE (intE .i64) E)), (1, .fn (.func 36) [] [.ro [.int .i64 m.id, .int .i64 m.low, .int .i64 m.high]]), (7, .int .i64 E.length), (8, .int .i64 i)], [none, none]))
    (fun i => i ≤ E.length ∧ ∀ (j : Nat) (h : j < E.length), j < i → ¬ E[j] < m.low) (fun i => E.length - i) 0
  case hI => exact ⟨by omega, fun j _ h => by omega⟩
  case hq => omega
  case ht => simp -implicitDefEqProofs [liveOf]
  case round =>
    rintro i ⟨hi, hn⟩ _
    clear hx
    by_cases hlt : i < E.length
    · have e2 : addI .i64 (i : Int) 1 = (i : Int) + 1 := addI_i64 (by omega) (by omega)
      by_cases hp : E[i] < m.low
      · have hf : freeI E m.low = i := by
          have : free E m.low = some i := by
            rw [free, List.findIdx?_eq_some_iff_getElem]
            exact ⟨hlt, by simpa using hp, fun j hj => by simpa using hn j (by omega) hj⟩
          rw [freeI, this]
        simp -implicitDefEqProofs [hlt, e2, c, hp, hf]
      · simp -implicitDefEqProofs [hlt, e2, c, hp]
        refine rnd_next (i + 1) ⟨hlt, fun j h hj => ?_⟩ (by omega) (by simp -implicitDefEqProofs [liveOf])
        rcases Nat.lt_or_ge j i with h1 | h1
        · have := hn j h h1; omega
        · have : j = i := by omega
          subst this; omega
    · have hi' : i = E.length := by omega
      subst hi'
      have hf : freeI E m.low = -1 := by
        have : free E m.low = none := by
          rw [free, List.findIdx?_eq_none_iff]
          intro x hx
          obtain ⟨j, hj, rfl⟩ := List.mem_iff_getElem.1 hx
          simpa using hn j hj hj
        rw [freeI, this]
      simp -implicitDefEqProofs [hf]

/-- One mark laid into a track: the tracks' numbers so far and the tracks' ends. -/
def lay (s : List Int × List Int) (m : Mark) : List Int × List Int :=
  match free s.2 m.low with
  | some i => (s.1 ++ [(i : Int)], s.2.set i m.high)
  | none => (s.1 ++ [(s.2.length : Int)], s.2 ++ [m.high])
end Go.Ev.Try

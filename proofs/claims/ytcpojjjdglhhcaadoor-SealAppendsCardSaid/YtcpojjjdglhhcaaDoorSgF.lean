/-
  THE SEAL SEAT: Check, for all lists of entries (own work).
-/
import Derived.Test.YtcpojjjdglhhcaaDoorSgD
import Derived.Test.YtcpojjjdglhhcaaDoorSgE
set_option linter.unusedSimpArgs false
set_option linter.unusedVariables false
set_option maxRecDepth 100000
set_option maxHeartbeats 4000000
namespace Go.Ev.Tryd
open Go Go.Ev Go.Proofs

noncomputable def checkGo (s : State) (i : Nat) (before : Int) : List Entry → State × Nat × Int
  | [] => (s, i, 0)
  | x :: l => if (step s (decide (i = 0)) x).2 ≠ 0 then (state0, i, (step s (decide (i = 0)) x).2)
    else if x.sum ≠ sumS before x then (state0, i, 13) else checkGo (step s (decide (i = 0)) x).1 (i + 1) x.sum l
noncomputable def check (l : List Entry) : State × Nat × Int := if 100 < l.length then (state0, 0, 2) else checkGo state0 0 0 l

def okL (l : List Entry) : Prop := ∀ x ∈ l, okE x
def szL (l : List Entry) : Nat := (l.map szE).sum
theorem szE_le {l : List Entry} {x : Entry} (h : x ∈ l) : szE x ≤ szL l := by
  induction l with
  | nil => cases h
  | cons y l ih =>
    rw [szL, List.map_cons, List.sum_cons]
    cases h with
    | head => omega
    | tail _ h => have := ih h; unfold szL at this; omega

theorem check_ok (l : List Entry) (z : Bool) (hl : okL l) {k : Nat} (hk : 500 + szL l ≤ k) :
    evF Tryd.prog Γ (k + 1) 8 [roV z l.length (flatE entryE l)] [] = some (.tup [.agg (stateE.f (check l).1), .int .i64 ((check l).2.1 : Nat), .int .i64 (check l).2.2], []) := by
  rw [b8 (fun _ _ => rfl) _ _ (by simp)]
  by_cases h100 : (100 : Int) < l.length
  · have h' : 100 < l.length := by omega
    simp -implicitDefEqProofs [h100, check, h', stateE_f, state0]
  · have h' : ¬ 100 < l.length := by omega
    simp -implicitDefEqProofs [h100, check, h']
    generalize hT : checkGo state0 0 0 l = T
    generalize hx : evLoopC _ _ _ _ _ _ _ _ _ _ = R
    apply loop_gen hx (fun a : Nat × State × Int => (mkL 52 .junk [(0, roV z l.length (flatE entryE l)), (2, .ptr 1 0), (3, .int .i64 0), (4, .int .i64 0), (5, .ptr 2 0), (6, .int .u64 a.2.2), (15, roV z l.length (flatE entryE l)), (16, .int .i64 l.length), (17, .int .i64 a.1)],
        [none, some (.cells (stateE.f state0) true), some (.cells (stateE.f a.2.1) true), none]))
      (fun a => a.1 ≤ l.length ∧ u64 a.2.2 ∧ checkGo a.2.1 a.1 a.2.2 (l.drop a.1) = T) (fun a => l.length - a.1) (0, state0, 0)
    case hI => exact ⟨by simp, by simp [u64], by simpa using hT⟩
    case hq => simp only; omega
    case ht => simp -implicitDefEqProofs [liveOf, stateE_f, state0]
    case round =>
      rintro ⟨i, s, b⟩ ⟨hi, hb, hg⟩ _
      simp only at hi hb hg
      clear hx hT
      by_cases hlt : i < l.length
      · have e2 : addI .i64 (i : Int) 1 = (i : Int) + 1 := addI_i64 (by omega) (by omega)
        have hxe := hl l[i] (List.getElem_mem hlt)
        have hsz := szE_le (List.getElem_mem hlt)
        rw [List.drop_eq_getElem_cons hlt] at hg
        have c1 := step_ok (k := k - 1) (by omega) s (decide (i = 0)) l[i]
        have c2 := sum_ok b hb l[i] hxe (k := k - 1) (by omega)
        obtain ⟨k, rfl⟩ : ∃ j, k = j + 1 := ⟨k - 1, by omega⟩
        simp only [Nat.add_sub_cancel] at c1 c2
        simp only [checkGo] at hg
        generalize step s (decide (i = 0)) l[i] = st at c1 hg
        obtain ⟨s', e⟩ := st
        simp only [stateE_f, entryE_f] at c1 c2
        by_cases he : e = 0
        · by_cases hs : l[i].sum = sumS b l[i]
          · have hs3 : sumS b l[i] = l[i].sum := hs.symm
            simp -implicitDefEqProofs [hlt, e2, c1, c2, he, hs3, stateE_f, entryE_f]
            refine rnd_next (i + 1, s', l[i].sum) ⟨hlt, hxe.sum, ?_⟩ (by simp only; omega) ?_
            · simpa [he, hs3] using hg
            · simp -implicitDefEqProofs [liveOf, stateE_f]
          · simp [he, hs] at hg
            subst hg
            simp -implicitDefEqProofs [hlt, e2, c1, c2, he, hs, stateE_f, entryE_f, state0]
        · simp [he] at hg
          subst hg
          simp -implicitDefEqProofs [hlt, e2, c1, c2, he, stateE_f, entryE_f, state0]
      · have hi' : i = l.length := by omega
        subst hi'
        simp [checkGo] at hg
        subst hg
        simp -implicitDefEqProofs [stateE_f]
end Go.Ev.Tryd

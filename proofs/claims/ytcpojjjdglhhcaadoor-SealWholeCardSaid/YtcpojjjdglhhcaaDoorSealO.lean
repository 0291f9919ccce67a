/-
  THE SEAL SEAT: SealWhole evaluates to true (own work).
-/
import Derived.Test.YtcpojjjdglhhcaaDoorSealN
set_option linter.unusedSimpArgs false
set_option linter.unusedVariables false
set_option maxRecDepth 100000
set_option maxHeartbeats 4000000
namespace Go.Ev.Tryd
open Go Go.Ev Go.Proofs

def okW (x : Entry) : Bool := !decide (x.kind = 3) || decide (x.root = 7)
theorem okW_any (l : List Entry) : (!l.any (otherRoot 7)) = l.all okW := by
  induction l with
  | nil => rfl
  | cons x l ih =>
    simp only [List.any_cons, List.all_cons, Bool.not_or, ih]
    congr 1
    unfold otherRoot okW
    cases decide (x.kind = 3) <;> cases decide (x.root = 7) <;> rfl

theorem law4_ok (l : List Int) (z : Bool) {k : Nat} (hk : 1200 ≤ k) :
    evF Tryd.prog Γ (k + 1) 4 [roV z l.length (flatE (intE .i64) l)] [] = some (.bool true, []) := by
  obtain ⟨k, rfl⟩ : ∃ j, k = j + 1 := ⟨k - 1, by omega⟩
  obtain ⟨out, hG, h9, ⟨x0, t0, he, hr⟩, c7⟩ := chain_ok l z (k := k) (by omega)
  have hp := hG.2.2
  have c13 := whole_ok out hG.1 hp (k := k) (by omega)
  have c10 := sealed_ok (k := k) (by omega)
  have hr0 : out[0].root = 7 := by subst he; exact hr
  rw [hr0, okW_any] at c13
  obtain ⟨w, hw⟩ : ∃ w, out.length = w + 1 := ⟨out.length - 1, by omega⟩
  have hta : List.take ((w + 1) * 6) (flatE entryE out) = flatE entryE out := by rw [← hw]; exact take_all_flatE entryE rfl out
  clear he
  rw [hw] at c7 c13
  rw [b4 (fun _ _ => rfl) _ _ (by simp)]
  simp -implicitDefEqProofs (maxSteps := 2000000) [c7, c10, c13, hta]
  generalize hx : evLoopC _ _ _ _ _ _ _ _ _ _ = R
  apply loop_gen hx (fun a : Nat × Bool => (mkL 49 .junk [(3, .sl 0 0 (w + 1) 6), (4, .bool (out.all okW)), (5, .int .i64 0), (6, .bool a.2), (16, .sl 0 0 (w + 1) 6), (17, .int .i64 (w + 1 : Nat)), (18, .int .i64 a.1)], [some (.cells (flatE entryE out) false), none]))
    (fun a => a.1 ≤ out.length ∧ a.2 = (out.take a.1).all okW) (fun a => out.length - a.1) (0, true)
  case hI => exact ⟨by simp, rfl⟩
  case hq => simp only; omega
  case ht => simp -implicitDefEqProofs [liveOf]
  case round =>
    rintro ⟨i, b⟩ ⟨hi, hA⟩ _
    clear hx c7 c13
    simp only at hi hA
    by_cases hlt : i < w + 1
    · have hlt' : i < out.length := by omega
      have hlt2 : (i : Int) < (w : Int) + 1 := by omega
      have e2 : addI .i64 (i : Int) 1 = (i : Int) + 1 := addI_i64 (by omega) (by omega)
      have hb6 : 6 ≤ out.length * 6 - i * 6 := by omega
      have hs : (out.take (i + 1)).all okW = (b && okW out[i]) := by
        rw [List.take_succ_eq_append_getElem hlt', List.all_append, ← hA]
        simp
      have fin : ∀ c, c = (b && okW out[i]) → ((i + 1, c) : Nat × Bool).1 ≤ out.length ∧ ((i + 1, c) : Nat × Bool).2 = (out.take (i + 1, c).1).all okW := fun c h => ⟨hlt', by rw [h]; exact hs.symm⟩
      cases b with
      | false =>
        simp -implicitDefEqProofs [hlt, hlt2, hlt', hb6, e2, entryE_f]
        exact rnd_next (i + 1, false) (fin _ (by simp)) (by simp only; omega) (by simp -implicitDefEqProofs [liveOf])
      | true =>
        by_cases h1 : out[i].kind = 3
        · by_cases h2 : out[i].root = 7
          · simp -implicitDefEqProofs [hlt, hlt2, hlt', hb6, e2, entryE_f, h1, h2]
            exact rnd_next (i + 1, true) (fin _ (by simp [okW, h1, h2])) (by simp only; omega) (by simp -implicitDefEqProofs [liveOf])
          · simp -implicitDefEqProofs [hlt, hlt2, hlt', hb6, e2, entryE_f, h1, h2]
            exact rnd_next (i + 1, false) (fin _ (by simp [okW, h1, h2])) (by simp only; omega) (by simp -implicitDefEqProofs [liveOf])
        · simp -implicitDefEqProofs [hlt, hlt2, hlt', hb6, e2, entryE_f, h1]
          exact rnd_next (i + 1, true) (fin _ (by simp [okW, h1])) (by simp only; omega) (by simp -implicitDefEqProofs [liveOf])
    · have hi' : i = w + 1 := by omega
      subst hi'
      rw [← hw, List.take_length] at hA
      have q : (0 : Int) < (w : Int) + 1 := by omega
      simp -implicitDefEqProofs [hA, c10, q]
end Go.Ev.Tryd

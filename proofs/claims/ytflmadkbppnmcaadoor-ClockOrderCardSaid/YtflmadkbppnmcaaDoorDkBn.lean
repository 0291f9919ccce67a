/-
  THE CLOCK DOOR SEAT (printed by wip/tools/port.py): Before, and the reference's Earlier (own work).
-/
import Derived.Test.YtflmadkbppnmcaaDoorDkZ
set_option linter.unusedSimpArgs false
set_option linter.unusedVariables false
set_option maxRecDepth 100000
set_option maxHeartbeats 4000000
namespace Go.Ev.Tryd
open Go Go.Ev Go.Proofs

def outside (l : List Event) (a b : Int) : Prop := a < 0 ∨ b < 0 ∨ (l.length : Int) ≤ a ∨ (l.length : Int) ≤ b
instance (l : List Event) (a b : Int) : Decidable (outside l a b) := by unfold outside; infer_instance
/-- What Before returns. -/
def beforeR (l : List Event) (ties : List Tie) (a b : Int) : Bool × Int :=
  if faultC l ties = 0 then if outside l a b then (false, 8) else match closed (nV l) (bds l ties) with
    | none => (false, 17)
    | some d => (decide (d (1 + nC l + b.toNat) (1 + nC l + a.toNat) < 0), 0)
  else (false, faultC l ties)
theorem before_ok (l : List Event) (ties : List Tie) (a b : Int) (z z2 : Bool) (hl : l.length ≤ 8796093022206) (ht : ties.length ≤ 8796093022206) {k : Nat} (hk : l.length + 400 < k) :
    evF Tryd.prog Γ (k + 1) 13 [roV z l.length (flatE eventE l), roV z2 ties.length (flatE tieE ties), .int .i64 a, .int .i64 b] [] = some (.tup [.bool (beforeR l ties a b).1, .int .i64 (beforeR l ties a b).2], []) := by
  obtain ⟨k, rfl⟩ : ∃ j, k = j + 1 := ⟨k - 1, by omega⟩
  have c12 := check_ok l ties z z2 hl ht (k := k) (by omega)
  have c12' := callPlain_int (call := evF Tryd.prog Γ (k + 1)) (H := []) (f := 23) (args := [roV z l.length (flatE eventE l), roV z2 ties.length (flatE tieE ties)]) (by simpa using c12)
  rw [b13 (fun _ _ => rfl) _ _ (by simp)]
  unfold beforeR
  by_cases hf : faultC l ties = 0
  · rw [if_pos hf]
    rw [hf] at c12'
    by_cases ho : outside l a b
    · rw [if_pos ho]
      unfold outside at ho
      by_cases h1 : (if b < a then b else a) < 0
      · simp -implicitDefEqProofs [c12', h1, -callPlain]
      · have h2 : (l.length : Int) ≤ (if a < b then b else a) := by split at h1 <;> split <;> omega
        simp -implicitDefEqProofs [c12', h1, h2, -callPlain]
    · rw [if_neg ho]
      unfold outside at ho
      have h1 : ¬ (if b < a then b else a) < 0 := by split <;> omega
      have h2 : ¬ (l.length : Int) ≤ (if a < b then b else a) := by split <;> omega
      have hr := right_of hf
      have hn := nV_le hr
      obtain ⟨d', cs, hd⟩ := solved_ok l ties z z2 hr (k := k) (by omega)
      obtain ⟨H1, c36, g1, hl1, _⟩ := callPlain_grid (call := evF Tryd.prog Γ (k + 1)) (H := []) (args := [roV z l.length (flatE eventE l), roV z2 ties.length (flatE tieE ties)]) (by simpa using cs) rfl (r' := .tup [.sl 0 0 (nV l) 1, .bool (closed (nV l) (bds l ties)).isSome]) (by simp)
      simp only [List.length_nil, Nat.zero_add] at hl1 g1
      cases hc : closed (nV l) (bds l ties) with
      | none =>
        rw [hc] at c36
        simp -implicitDefEqProofs [c12', h1, h2, c36, -callPlain]
      | some d =>
        have hdd := hd d hc
        subst hdd
        rw [hc] at c36
        have cc := clocks_ok l z (by omega) (k := k) (by omega)
        rw [names_eq] at cc
        have c10 := callPlain_own (E := strE) (call := evF Tryd.prog Γ (k + 1)) (H := H1) (f := 26) (args := [roV z l.length (flatE eventE l)]) ((congrArg (fun a => evF Tryd.prog Γ (k + 1) 26 a []) (by simp)).trans cc)
        generalize hb : ownB true (insF (clks l)).length (flatE strE (insF (clks l) ++ List.replicate (l.length - (insF (clks l)).length) ByteArray.empty)) = bb at c10
        have hCC := hr.hc
        have hLL := hr.hl
        have e1 : addI .i64 1 ((insF (clks l)).length : Int) = ((1 + nC l : Nat) : Int) := by rw [addI_i64 (by omega) (by omega)]; unfold nC; omega
        have hnC : nC l ≤ 12 := hr.hc
        have e2 : addI .i64 ((1 + nC l : Nat) : Int) a = ((1 + nC l + a.toNat : Nat) : Int) := by rw [addI_i64 (by omega) (by omega)]; omega
        have e3 : addI .i64 ((1 + nC l : Nat) : Int) b = ((1 + nC l + b.toNat : Nat) : Int) := by rw [addI_i64 (by omega) (by omega)]; omega
        have g2 := g1.app [bb]
        have hfa : 1 + nC l + a.toNat < nV l := by unfold nV; omega
        have hfb : 1 + nC l + b.toNat < nV l := by unfold nV; omega
        have hO := g2.out
        have hR := g2.row _ hfb
        simp only [rowB] at hR
        have o1 := outC_drop (b := 1) hfb
        have o2 := rowC_drop (d' (1 + nC l + b.toNat)) hfa
        generalize hx1 : 1 + nC l + a.toNat = fa at *
        generalize hx2 : 1 + nC l + b.toNat = fb at *
        have hfa2 : (fa : Int) < nV l := by omega
        have hfb2 : (fb : Int) < nV l := by omega
        generalize hw : ((1 + nC l : Nat) : Int) = w at *
        have hg0 : ∀ q, finish 0 (H1 ++ [bb]) (.tup [.bool q, .int .i64 0]) = (.tup [.bool q, .int .i64 0], []) := fun q => by simp
        simp -implicitDefEqProofs [c12', h1, h2, c36, c10, e1, e2, e3, hfa, hfb, hfa2, hfb2, hO, hR, o1, o2, -callPlain, -getElem?_pos, List.getElem?_cons_zero]
  · rw [if_neg hf]
    simp -implicitDefEqProofs [c12', hf, -callPlain]
end Go.Ev.Tryd

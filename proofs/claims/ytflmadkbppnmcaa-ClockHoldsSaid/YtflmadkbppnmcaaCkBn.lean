/-
  THE CLOCK SEAT: Before, and the reference's Earlier (own work).
-/
import Derived.Test.YtflmadkbppnmcaaCkBd
import Derived.Test.YtflmadkbppnmcaaCkZ
set_option linter.unusedSimpArgs false
set_option linter.unusedVariables false
set_option maxRecDepth 100000
set_option maxHeartbeats 4000000
namespace Go.Ev.Try
open Go Go.Ev Go.Proofs

def outside (l : List Event) (a b : Int) : Prop := a < 0 ∨ b < 0 ∨ (l.length : Int) ≤ a ∨ (l.length : Int) ≤ b
instance (l : List Event) (a b : Int) : Decidable (outside l a b) := by unfold outside; infer_instance
/-- What Before returns. -/
def beforeR (l : List Event) (ties : List Tie) (a b : Int) : Bool × Int :=
  if faultC l ties = 0 then if outside l a b then (false, 8) else match closed (nV l) (bds l ties) with
    | none => (false, 17)
    | some d => (decide (d (1 + nC l + b.toNat) (1 + nC l + a.toNat) < 0), 0)
  else (false, faultC l ties)
theorem before_ok (l : List Event) (ties : List Tie) (a b : Int) (z z2 : Bool) (hl : l.length ≤ 8796093022206) (ht : ties.length ≤ 8796093022206) {k : Nat} (hk : l.length + 400 < k) :
    evF Try.prog Γ (k + 1) 24 [roV z l.length (flatE eventE l), roV z2 ties.length (flatE tieE ties), .int .i64 a, .int .i64 b] [] = some (.tup [.bool (beforeR l ties a b).1, .int .i64 (beforeR l ties a b).2], []) := by
  obtain ⟨k, rfl⟩ : ∃ j, k = j + 1 := ⟨k - 1, by omega⟩
  have c12 := check_ok l ties z z2 hl ht (k := k) (by omega)
  have c12' := callPlain_int (call := evF Try.prog Γ (k + 1)) (H := []) (f := 12) (args := [roV z l.length (flatE eventE l), roV z2 ties.length (flatE tieE ties)]) (by simpa using c12)
  rw [b24 (fun _ _ => rfl) _ _ (by simp)]
  unfold beforeR
  by_cases hf : faultC l ties = 0
  · rw [if_pos hf]
    rw [hf] at c12'
    by_cases ho : outside l a b
    · rw [if_pos ho]
      unfold outside at ho
      by_cases h1 : (if b < a then b else a) < 0
      · simp -implicitDefEqProofs [c12', h1, -callPlain]
      · have h2 : (l.length : Int) ≤ (if a < b then b else a) := by split at h1 <;> split <;> omega
        simp -implicitDefEqProofs [c12', h1, h2, -callPlain]
    · rw [if_neg ho]
      unfold outside at ho
      have h1 : ¬ (if b < a then b else a) < 0 := by split <;> omega
      have h2 : ¬ (l.length : Int) ≤ (if a < b then b else a) := by split <;> omega
      have hr := right_of hf
      have hn := nV_le hr
      obtain ⟨d', cs, hd⟩ := solved_ok l ties z z2 hr (k := k) (by omega)
      obtain ⟨H1, c36, g1, hl1, _⟩ := callPlain_grid (call := evF Try.prog Γ (k + 1)) (H := []) (args := [roV z l.length (flatE eventE l), roV z2 ties.length (flatE tieE ties)]) (by simpa using cs) rfl (r' := .tup [.sl 0 0 (nV l) 1, .bool (closed (nV l) (bds l ties)).isSome]) (by simp)
      simp only [List.length_nil, Nat.zero_add] at hl1 g1
      cases hc : closed (nV l) (bds l ties) with
      | none =>
        rw [hc] at c36
        simp -implicitDefEqProofs [c12', h1, h2, c36, -callPlain]
      | some d =>
        have hdd := hd d hc
        subst hdd
        rw [hc] at c36
        have cc := clocks_ok l z (by omega) (k := k) (by omega)
        rw [names_eq] at cc
        have c10 := callPlain_own (E := strE) (call := evF Try.prog Γ (k + 1)) (H := H1) (f := 10) (args := [roV z l.length (flatE eventE l)]) ((congrArg (fun a => evF Try.prog Γ (k + 1) 10 a []) (by simp)).trans cc)
        generalize hb : ownB true (insF (clks l)).length (flatE strE (insF (clks l) ++ List.replicate (l.length - (insF (clks l)).length) ByteArray.empty)) = bb at c10
        have hCC := hr.hc
        have hLL := hr.hl
        have e1 : addI .i64 1 ((insF (clks l)).length : Int) = ((1 + nC l : Nat) : Int) := by rw [addI_i64 (by omega) (by omega)]; unfold nC; omega
        have hnC : nC l ≤ 12 := hr.hc
        have e2 : addI .i64 ((1 + nC l : Nat) : Int) a = ((1 + nC l + a.toNat : Nat) : Int) := by rw [addI_i64 (by omega) (by omega)]; omega
        have e3 : addI .i64 ((1 + nC l : Nat) : Int) b = ((1 + nC l + b.toNat : Nat) : Int) := by rw [addI_i64 (by omega) (by omega)]; omega
        have g2 := g1.app [bb]
        have hfa : 1 + nC l + a.toNat < nV l := by unfold nV; omega
        have hfb : 1 + nC l + b.toNat < nV l := by unfold nV; omega
        have hO := g2.out
        have hR := g2.row _ hfb
        simp only [rowB] at hR
        have o1 := outC_drop (b := 1) hfb
        have o2 := rowC_drop (d' (1 + nC l + b.toNat)) hfa
        generalize hx1 : 1 + nC l + a.toNat = fa at *
        generalize hx2 : 1 + nC l + b.toNat = fb at *
        have hfa2 : (fa : Int) < nV l := by omega
        have hfb2 : (fb : Int) < nV l := by omega
        generalize hw : ((1 + nC l : Nat) : Int) = w at *
        have hg0 : ∀ q, finish 0 (H1 ++ [bb]) (.tup [.bool q, .int .i64 0]) = (.tup [.bool q, .int .i64 0], []) := fun q => by simp
        simp -implicitDefEqProofs [c12', h1, h2, c36, c10, e1, e2, e3, hfa, hfb, hfa2, hfb2, hO, hR, o1, o2, -callPlain, -getElem?_pos, List.getElem?_cons_zero]
  · rw [if_neg hf]
    simp -implicitDefEqProofs [c12', hf, -callPlain]
/-- THE LAW OF Earlier: a bound more contradicts the others just if the net says so. -/
theorem earlier_law {l : List Event} {ties : List Tie} (hr : Right l ties) {fa fb : Nat} (ha : fa < nV l) (hb : fb < nV l) {d : Mat} (hc : closed (nV l) (bds l ties) = some d) :
    (far (bds l ties ++ [⟨fa, fb, 0⟩]) (nV l + 1) far0).isSome = !decide (d fb fa < 0) := by
  have hf := fit hr
  have c := closed_some hf hc
  have hf2 : Fit (nV l) (bds l ties ++ [⟨fa, fb, 0⟩]) := by
    refine ⟨hf.pos, fun b hb' => ?_, fun b hb' e => ?_, fun b hb' => ?_, fun b hb' => ?_, fun i h1 h2 => List.mem_append_left _ (hf.out i h1 h2), fun i h1 h2 => List.mem_append_left _ (hf.back i h1 h2)⟩ <;> rcases List.mem_append.1 hb' with h | h
    · exact hf.at_ b h
    · simp at h; subst h; exact ⟨ha, hb⟩
    · exact hf.loop b h e
    · simp at h; subst h; simp
    · exact hf.lo b h
    · simp at h; subst h; simp
    · exact hf.hi b h
    · simp at h; subst h; simp
  by_cases hd : d fb fa < 0
  · rw [far_no hf2 fun x hx => ?_]
    · simp [hd]
    · have h1 := c.most x (fun b hb' => hx b (List.mem_append_left _ hb')) fb fa hb ha
      have h2 := hx ⟨fa, fb, 0⟩ (by simp)
      simp only at h2
      omega
  · have hs : Sol (bds l ties ++ [⟨fa, fb, 0⟩]) (d fb) := fun b hb' => by
      rcases List.mem_append.1 hb' with h | h
      · exact c.row fb hb b h
      · simp at h; subst h
        have := c.diag fb hb
        simp only; omega
    have := far_closed hf2
    cases hc2 : closed (nV l) (bds l ties ++ [⟨fa, fb, 0⟩]) with
    | none => exact absurd hs (closed_none hf2 hc2 _)
    | some d2 =>
      rw [hc2] at this
      obtain ⟨_, ⟨x, hx, _⟩, _⟩ := this
      rw [hx]; simp [hd]
theorem earlier_ok (l : List Event) (ties : List Tie) (a b : Int) (z z2 : Bool) (hr : Right l ties) (ho : ¬ outside l a b) {d : Mat} (hc : closed (nV l) (bds l ties) = some d) {k : Nat} (hk : 700 < k) :
    evF Try.prog Γ (k + 1) 26 [roV z l.length (flatE eventE l), roV z2 ties.length (flatE tieE ties), .int .i64 a, .int .i64 b] [] = some (.bool (decide (d (1 + nC l + b.toNat) (1 + nC l + a.toNat) < 0)), []) := by
  obtain ⟨k, rfl⟩ : ∃ j, k = j + 1 := ⟨k - 1, by omega⟩
  unfold outside at ho
  have hne : l ≠ [] := fun h => by subst h; simp at ho; omega
  have hn := nV_le hr
  have hf := fit hr
  have hLL := hr.hl
  have hnC : nC l ≤ 12 := hr.hc
  have cb := bounds_ne l ties z z2 hr hne (k := k) (by omega)
  have cc := clocksOf_ok l z (by omega) (k := k) (by omega)
  have hfa : 1 + nC l + a.toNat < nV l := by unfold nV; omega
  have hfb : 1 + nC l + b.toNat < nV l := by unfold nV; omega
  have hel := earlier_law hr hfa hfb hc
  have hlen : (bds l ties).length ≤ 399 := by
    have h1 := hr.hl; have h2 := hr.ht; have h3 := hr.hc
    unfold bds; rw [List.length_append, List.length_append, bd0_length, bdE_length l _ (Nat.le_refl _), bdT_length]; unfold nC; omega
  have hpos : 0 < (bds l ties).length := by
    have : (⟨0, 1, 4294967295⟩ : Bd) ∈ bds l ties := hf.out 1 (by omega) (by omega)
    exact List.length_pos_of_mem this
  have cf := far_ok hn hf.pos (bds l ties ++ [⟨1 + nC l + a.toNat, 1 + nC l + b.toNat, 0⟩]) (fun b hb' => by
    rcases List.mem_append.1 hb' with h | h
    · exact hf.at_ b h
    · simp at h; subst h; exact ⟨hfa, hfb⟩) (fun b hb' => by
    rcases List.mem_append.1 hb' with h | h
    · exact ⟨hf.lo b h, hf.hi b h⟩
    · simp at h; subst h; simp) (by simp; omega) (k := k) (by omega)
  have e1 : addI .i64 1 (nC l : Int) = ((1 + nC l : Nat) : Int) := by rw [addI_i64 (by omega) (by omega)]; omega
  have e2 : addI .i64 ((1 + nC l : Nat) : Int) a = ((1 + nC l + a.toNat : Nat) : Int) := by rw [addI_i64 (by omega) (by omega)]; omega
  have e3 : addI .i64 ((1 + nC l : Nat) : Int) b = ((1 + nC l + b.toNat : Nat) : Int) := by rw [addI_i64 (by omega) (by omega)]; omega
  obtain ⟨m, hm⟩ : ∃ m, (bds l ties).length = m + 1 := ⟨(bds l ties).length - 1, by omega⟩
  have hcp := nC_pos hne
  have hcl : (insF (clks l)).length = nC l := rfl
  rw [hcl] at cc
  obtain ⟨c, hcc⟩ : ∃ c, nC l = c + 1 := ⟨nC l - 1, by omega⟩
  have e1' : addI .i64 1 ((c : Int) + 1) = ((1 + nC l : Nat) : Int) := by rw [← e1]; congr 1; omega
  rw [hcc] at cc
  rw [hm] at cb
  simp at cc cb
  generalize hx1 : 1 + nC l + a.toNat = fa at *
  generalize hx2 : 1 + nC l + b.toNat = fb at *
  generalize hw : ((1 + nC l : Nat) : Int) = w at *
  generalize hB : bds l ties = B at *
  have h9 : (m + 1 + 1) * 24 ≤ 140737488355328 := by omega
  have ht1 : List.take ((m + 1 + 1) * 3) (flatE bE B ++ [V.int .i64 fa, V.int .i64 fb, V.int .i64 0]) = flatE bE B ++ [V.int .i64 fa, V.int .i64 fb, V.int .i64 0] := List.take_of_length_le (by simp [hm]; omega)
  have hl2 : (B ++ [(⟨fa, fb, 0⟩ : Bd)]).length = m + 1 + 1 := by simp [hm]
  have hfl : flatE bE (B ++ [(⟨fa, fb, 0⟩ : Bd)]) = flatE bE B ++ [V.int .i64 fa, V.int .i64 fb, V.int .i64 0] := by simp [bE_f]
  rw [hl2, hfl] at cf
  rw [b26 (fun _ _ => rfl) _ _ (by simp)]
  cases hfr : far (B ++ [(⟨fa, fb, 0⟩ : Bd)]) (nV l + 1) far0 with
  | none =>
    rw [hfr] at cf hel
    have hdd : d fb fa < 0 := by simpa using hel
    unfold farV at cf
    simp only at cf
    simp -implicitDefEqProofs [cb, cc, e1', e2, e3, hm, h9, ht1, cf, hdd, farV]
  | some x =>
    rw [hfr] at cf hel
    have hdd : ¬ d fb fa < 0 := by simpa using hel
    unfold farV at cf
    simp only at cf
    simp -implicitDefEqProofs [cb, cc, e1', e2, e3, hm, h9, ht1, cf, hdd, farV]
end Go.Ev.Try

import Derived.Test.YtflmadkbppnmcaaCkX
import Derived.Test.YtflmadkbppnmcaaCkC5
set_option linter.unusedSimpArgs false
set_option linter.unusedVariables false
set_option maxRecDepth 100000
set_option maxHeartbeats 4000000
namespace Go.Ev.Try
open Go Go.Ev Go.Proofs
theorem callPlain_own {α : Type} {E : Enc α} [E.Own] {call : CallF} {H : Heap} {f c sz : Nat} {l : List α} {args : List V} (hc : call f (args.map (snap 4 H)) [] = some (ownV true 0 0 c sz, [ownB true c (flatE E l)])) :
    callPlain call H f args = some (ownV true H.length 0 c sz, H ++ [ownB true c (flatE E l)]) := by
  unfold callPlain
  rw [hc]
  cases c <;> simp
theorem callPlain_int {call : CallF} {H : Heap} {f : Nat} {k : IntKind} {x : Int} {args : List V} (hc : call f (args.map (snap 4 H)) [] = some (.int k x, [])) : callPlain call H f args = some (.int k x, H) := by
  unfold callPlain; rw [hc]; simp
theorem finish_own2 {α : Type} {E : Enc α} [E.Own] {H : Heap} {N c sz : Nat} {l : List α} (hN : H[N]? = some (ownB true c (flatE E l))) (k : IntKind) (e : Int) :
    finish 0 H (.tup [ownV true N 0 c sz, .int k e]) = (.tup [ownV true 0 0 c sz, .int k e], [ownB true c (flatE E l)]) := by
  cases c with
  | zero => simp [-getElem?_pos]
  | succ c =>
    simp at hN
    have hd := getD_some (d := none) hN
    simp [hN, hd, -getElem?_pos]
def answer (l : List Event) (ties : List Tie) (f : Mat → List (Int × Int)) : List (Int × Int) × Int :=
  if faultC l ties = 0 then match closed (nV l) (bds l ties) with
    | some d => (f d, 0)
    | none => ([], 17)
  else ([], faultC l ties)
def ansV (p : List (Int × Int) × Int) : Option (V × Heap) := some (.tup [ownV true 0 0 p.1.length 2, .int .i64 p.2], [ownB true p.1.length (flatE pairE p.1)])
theorem clo_tame {l : List Event} {ties : List Tie} (hr : Right l ties) {d : Mat} (h : closed (nV l) (bds l ties) = some d) : ∀ i j, i < nV l → j < nV l → -17179869180 ≤ d i j ∧ d i j ≤ 17179869180 := fw_tame (fit hr).tame (Nat.le_refl _) h
theorem solve_ok (l : List Event) (ties : List Tie) (z z2 : Bool) (hl : l.length ≤ 8796093022206) (ht : ties.length ≤ 8796093022206) {k : Nat} (hk : l.length + 400 < k) :
    evF Try.prog Γ (k + 1) 18 [roV z l.length (flatE eventE l), roV z2 ties.length (flatE tieE ties)] [] = ansV (answer l ties fun d => ivs d (1 + nC l) l.length) := by
  obtain ⟨k, rfl⟩ : ∃ j, k = j + 1 := ⟨k - 1, by omega⟩
  have c12 := check_ok l ties z z2 hl ht (k := k) (by omega)
  have c12' := callPlain_int (call := evF Try.prog Γ (k + 1)) (H := []) (f := 12) (args := [roV z l.length (flatE eventE l), roV z2 ties.length (flatE tieE ties)]) (by simpa using c12)
  rw [b18 (fun _ _ => rfl) _ _ (by simp)]
  by_cases hf : faultC l ties = 0
  · have hr := right_of hf
    have hn := nV_le hr
    obtain ⟨d', cs, hd⟩ := solved_ok l ties z z2 hr (k := k) (by omega)
    obtain ⟨H1, c36, g1, hl1, _⟩ := callPlain_grid (call := evF Try.prog Γ (k + 1)) (H := []) (args := [roV z l.length (flatE eventE l), roV z2 ties.length (flatE tieE ties)]) (by simpa using cs) rfl (r' := .tup [.sl 0 0 (nV l) 1, .bool (closed (nV l) (bds l ties)).isSome]) (by simp)
    rw [hf] at c12'
    unfold answer
    rw [if_pos hf]
    simp only [List.length_nil, Nat.zero_add] at hl1 g1
    cases hc : closed (nV l) (bds l ties) with
    | none =>
      rw [hc] at c36
      simp -implicitDefEqProofs [c12', c36, ansV, -callPlain]
    | some d =>
      have hdd := hd d hc
      subst hdd
      rw [hc] at c36
      have cc := clocks_ok l z (by omega) (k := k) (by omega)
      rw [names_eq] at cc
      have c10 := callPlain_own (E := strE) (call := evF Try.prog Γ (k + 1)) (H := H1) (f := 10) (args := [roV z l.length (flatE eventE l)]) ((congrArg (fun a => evF Try.prog Γ (k + 1) 10 a []) (by simp)).trans cc)
      have ci := intervals_ok (n := nV l) (a := 1 + nC l) (c := l.length) d' (by unfold nV; omega) (by omega) (clo_tame hr hc) (k := k) (by omega)
      generalize hb : ownB true (insF (clks l)).length (flatE strE (insF (clks l) ++ List.replicate (l.length - (insF (clks l)).length) ByteArray.empty)) = b at c10
      have hs := (g1.app [b]).snap
      have c39 := callPlain_own (E := pairE) (call := evF Try.prog Γ (k + 1)) (H := H1 ++ [b]) (f := 39) (args := [.sl 0 0 (nV l) 1, .int .i64 (1 + nC l : Nat), .int .i64 l.length]) (by simp only [List.map_cons, List.map_nil, snap_int, hs]; exact ci)
      have e1 : addI .i64 1 ((insF (clks l)).length : Int) = ((1 + nC l : Nat) : Int) := by
        have := hr.hc
        rw [addI_i64 (by omega) (by omega)]; unfold nC; omega
      have hN : ∀ x, (H1 ++ [b] ++ [x])[(H1 ++ [b]).length]? = some x := fun x => by rw [List.getElem?_append_right (Nat.le_refl _)]; simp
      have hf2 := fun k e => finish_own2 (E := pairE) (c := l.length) (sz := 2) (hN (ownB true l.length (flatE pairE (ivs d' (1 + nC l) l.length)))) k e
      generalize hw : ((1 + nC l : Nat) : Int) = w at *
      generalize hG : H1 ++ [b] = G at *
      simp -implicitDefEqProofs [c12', c36, c10, c39, hG, e1, hf2, ansV, -callPlain, -finish]
  · have hf' : ¬ (faultC l ties) = 0 := hf
    unfold answer
    rw [if_neg hf]
    simp -implicitDefEqProofs [c12', hf, ansV, -callPlain]
end Go.Ev.Try

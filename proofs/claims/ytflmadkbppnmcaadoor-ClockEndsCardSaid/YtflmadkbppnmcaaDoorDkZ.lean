/-
  THE CLOCK DOOR SEAT (printed by wip/tools/port.py): One (own work).
-/
import Derived.Test.YtflmadkbppnmcaaDoorDkY
set_option linter.unusedSimpArgs false
set_option linter.unusedVariables false
set_option maxRecDepth 100000
set_option maxHeartbeats 4000000
namespace Go.Ev.Tryd
open Go Go.Ev Go.Proofs

theorem at_pairs (l : List (Int × Int)) (i : Nat) (h : i < l.length) : List.take 2 (List.drop (i * 2) (flatE pairE l)) = [.int .i64 l[i].1, .int .i64 l[i].2] := at_flatE pairE rfl l i h
def fsts (l : List (Int × Int)) : List Int := l.map (·.1)
@[simp] theorem fsts_length (l : List (Int × Int)) : (fsts l).length = l.length := by simp [fsts]
theorem fsts_take (l : List (Int × Int)) (i : Nat) (h : i < l.length) : (fsts l).take (i + 1) = (fsts l).take i ++ [l[i].1] := by
  rw [List.take_succ_eq_append_getElem (by simpa using h)]; simp [fsts]
def oneV (a b : List Int) (e : Int) : Option (V × Heap) := some (.tup [ownV true 0 0 a.length 1, ownV true 1 0 b.length 1, .int .i64 e], [ownB true a.length (flatE (intE .i64) a), ownB true b.length (flatE (intE .i64) b)])
theorem one_ok (l : List Event) (ties : List Tie) (z z2 : Bool) (hl : l.length ≤ 8796093022206) (ht : ties.length ≤ 8796093022206) {k : Nat} (hk : l.length + 500 < k) :
    evF Tryd.prog Γ (k + 1) 17 [roV z l.length (flatE eventE l), roV z2 ties.length (flatE tieE ties)] [] =
      oneV (fsts (answer l ties fun d => ivs d 1 (nC l)).1) (fsts (answer l ties fun d => ivs d (1 + nC l) l.length).1) (answer l ties fun d => ivs d 1 (nC l)).2 := by
  obtain ⟨k, rfl⟩ : ∃ j, k = j + 1 := ⟨k - 1, by omega⟩
  have c1 := errors_ok l ties z z2 hl ht (k := k) (by omega)
  have c2 := solve_ok l ties z z2 hl ht (k := k) (by omega)
  have h2 : (answer l ties fun d => ivs d 1 (nC l)).2 = (answer l ties fun d => ivs d (1 + nC l) l.length).2 := by
    unfold answer; split
    · cases closed (nV l) (bds l ties) <;> rfl
    · rfl
  have h3 : (answer l ties fun d => ivs d 1 (nC l)).2 ≠ 0 → (answer l ties fun d => ivs d 1 (nC l)).1 = [] ∧ (answer l ties fun d => ivs d (1 + nC l) l.length).1 = [] := by
    unfold answer; split
    · cases closed (nV l) (bds l ties) <;> simp
    · simp
  have h4 : (answer l ties fun d => ivs d 1 (nC l)).1.length ≤ 100 ∧ (answer l ties fun d => ivs d (1 + nC l) l.length).1.length ≤ 100 := by
    unfold answer; split
    · rename_i hf
      have hr := right_of hf
      have := nV_le hr
      unfold nV at this
      cases closed (nV l) (bds l ties) <;> simp <;> omega
    · simp
  have h5 : ((answer l ties fun d => ivs d 1 (nC l)).1 = [] ∧ (answer l ties fun d => ivs d (1 + nC l) l.length).1 = []) ∨ (∃ a b, (answer l ties fun d => ivs d 1 (nC l)).1.length = a + 1 ∧ (answer l ties fun d => ivs d (1 + nC l) l.length).1.length = b + 1) := by
    unfold answer; split
    · cases closed (nV l) (bds l ties) with
      | none => exact .inl ⟨rfl, rfl⟩
      | some d =>
        by_cases hne : l = []
        · subst hne; exact .inl ⟨rfl, rfl⟩
        · have hp := nC_pos hne
          have hq : 0 < l.length := List.length_pos_iff.2 hne
          exact .inr ⟨nC l - 1, l.length - 1, by simp; omega, by simp; omega⟩
    · exact .inl ⟨rfl, rfl⟩
  generalize (answer l ties fun d => ivs d 1 (nC l)) = E at *
  generalize (answer l ties fun d => ivs d (1 + nC l) l.length) = T at *
  obtain ⟨E, e⟩ := E
  obtain ⟨T, e'⟩ := T
  simp only at h2 h3 h4 h5
  subst h2
  unfold ansV at c1 c2
  simp only at c1 c2
  have c1' := callPlain_tup (call := evF Tryd.prog Γ (k + 1)) (H := []) (f := 16) (args := [roV z l.length (flatE eventE l), roV z2 ties.length (flatE tieE ties)]) (by simpa using c1)
  have c2' := callPlain_tup (call := evF Tryd.prog Γ (k + 1)) (H := [ownB true E.length (flatE pairE E)]) (f := 8) (args := [roV z l.length (flatE eventE l), roV z2 ties.length (flatE tieE ties)]) (by simpa using c2)
  rw [b17 (fun _ _ => rfl) _ _ (by simp)]
  by_cases he : e = 0
  · subst he
    clear c1 c2 h3
    rcases h5 with ⟨rfl, rfl⟩ | ⟨a, b, ha, hb⟩
    · simp [-callPlain] at c1' c2'
      simp -implicitDefEqProofs [c1', c2', -callPlain]
      generalize hx : evLoopC _ _ _ _ _ _ _ _ _ _ = R
      apply loop_gen hx (fun _ : Nat => (mkL 60 .junk [(9, .nils), (10, .nils), (11, .nils), (34, .nils), (35, .int .i64 0), (36, .int .i64 0)], [none, none, none, none])) (fun _ => True) (fun _ => 0) 0
      case hI => trivial
      case hq => omega
      case ht => simp -implicitDefEqProofs [liveOf]
      case round =>
        rintro i _ _
        clear hx
        simp -implicitDefEqProofs
        generalize hy : evLoopC _ _ _ _ _ _ _ _ _ _ = R
        apply loop_gen hy (fun _ : Nat => (mkL 60 .junk [(10, .nils), (11, .nils), (46, .nils), (47, .int .i64 0), (48, .int .i64 0)], [none, none, none])) (fun _ => True) (fun _ => 0) 0
        case hI => trivial
        case hq => omega
        case ht => simp -implicitDefEqProofs [liveOf]
        case round =>
          rintro j _ _
          clear hy
          simp -implicitDefEqProofs [oneV, fsts]
    · rw [ha] at c1' c2'
      rw [hb] at c2'
      simp [-callPlain] at c1' c2'
      simp -implicitDefEqProofs [c1', c2', -callPlain]
      generalize hx : evLoopC _ _ _ _ _ _ _ _ _ _ = R
      apply loop_gen hx (fun i : Nat => (mkL 60 .junk [(9, .sl 0 0 (b + 1) 2), (10, ownV true 1 0 i 1), (11, .nils), (34, .sl 3 0 (a + 1) 2), (35, .int .i64 (a + 1 : Nat)), (36, .int .i64 i)], [some (.cells (flatE pairE T) false), ownB true i (flatE (intE .i64) ((fsts E).take i)), none, some (.cells (flatE pairE E) false)]))
        (fun i => i ≤ a + 1) (fun i => a + 1 - i) 0
      case hI => simp
      case hq => omega
      case ht => simp -implicitDefEqProofs [liveOf]
      case round =>
        rintro i hi _
        clear hx
        by_cases hlt : i < a + 1
        · have hlt2 : (i : Int) < (a : Int) + 1 := by omega
          have hie : i < E.length := by omega
          have ms := at_pairs E i hie
          have hs := fsts_take E i hie
          have hlen : ((fsts E).take i).length = i := by simp; omega
          have h9 : (i + 1) * 8 ≤ 140737488355328 := by omega
          have hd : 2 ≤ (a + 1) * 2 - i * 2 := by omega
          have e2 : addI .i64 (i : Int) 1 = (i : Int) + 1 := addI_i64 (by omega) (by omega)
          generalize E[i] = x at *
          cases i with
          | zero =>
            simp at e2 ms hs
            have hd : 2 ≤ (a + 1) * 2 := by omega
            simp -implicitDefEqProofs [hlt, hlt2, ms, e2, hd, ha, hb]
            exact rnd_next 1 hlt (by omega) (by simp -implicitDefEqProofs [liveOf, hs])
          | succ i =>
            simp at hlt2 e2
            have hp0 : (0 : Int) ≤ (i : Int) + 1 := by omega
            simp -implicitDefEqProofs [hlt, hlt2, ms, hlen, e2, h9, hd, hp0, ha, hb]
            exact rnd_next (i + 1 + 1) hlt (by omega) (by simp -implicitDefEqProofs [liveOf, hs, hlen])
        · have hi' : i = a + 1 := by omega
          subst hi'
          have hlt2 : ¬ ((a : Int) + 1 < (a : Int) + 1) := by omega
          have htk : (fsts E).take (a + 1) = fsts E := List.take_of_length_le (by simp [ha])
          simp -implicitDefEqProofs [hlt2, htk]
          generalize hx : evLoopC _ _ _ _ _ _ _ _ _ _ = R
          apply loop_gen hx (fun i : Nat => (mkL 60 .junk [(10, .sl 0 0 (a + 1) 1), (11, ownV true 1 0 i 1), (46, .sl 2 0 (b + 1) 2), (47, .int .i64 (b + 1 : Nat)), (48, .int .i64 i)], [some (.cells (flatE (intE .i64) (fsts E)) false), ownB true i (flatE (intE .i64) ((fsts T).take i)), some (.cells (flatE pairE T) false)]))
            (fun i => i ≤ b + 1) (fun i => b + 1 - i) 0
          case hI => simp
          case hq => omega
          case ht => simp -implicitDefEqProofs [liveOf]
          case round =>
            rintro i hi _
            clear hx
            by_cases hlt : i < b + 1
            · have hlt2 : (i : Int) < (b : Int) + 1 := by omega
              have hie : i < T.length := by omega
              have ms := at_pairs T i hie
              have hs := fsts_take T i hie
              have hlen : ((fsts T).take i).length = i := by simp; omega
              have h9 : (i + 1) * 8 ≤ 140737488355328 := by omega
              have hd : 2 ≤ (b + 1) * 2 - i * 2 := by omega
              have e2 : addI .i64 (i : Int) 1 = (i : Int) + 1 := addI_i64 (by omega) (by omega)
              generalize T[i] = x at *
              cases i with
              | zero =>
                simp at e2 ms hs
                have hd : 2 ≤ (b + 1) * 2 := by omega
                simp -implicitDefEqProofs [hlt, hlt2, ms, e2, hd, ha, hb]
                exact rnd_next 1 hlt (by omega) (by simp -implicitDefEqProofs [liveOf, hs])
              | succ i =>
                simp at hlt2 e2
                have hp0 : (0 : Int) ≤ (i : Int) + 1 := by omega
                simp -implicitDefEqProofs [hlt, hlt2, ms, hlen, e2, h9, hd, hp0, ha, hb]
                exact rnd_next (i + 1 + 1) hlt (by omega) (by simp -implicitDefEqProofs [liveOf, hs, hlen])
            · have hi' : i = b + 1 := by omega
              subst hi'
              have hlt2 : ¬ ((b : Int) + 1 < (b : Int) + 1) := by omega
              have htk : (fsts T).take (b + 1) = fsts T := List.take_of_length_le (by simp [hb])
              simp -implicitDefEqProofs [hlt2, htk, oneV, ha, hb]
  · obtain ⟨rfl, rfl⟩ := h3 he
    simp -implicitDefEqProofs [c1', he, oneV, fsts, -callPlain]
end Go.Ev.Tryd

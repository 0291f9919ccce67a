/-
  THE SEAL SEAT: the reference's ChainOf is Check (own work).
-/
import Derived.Test.YtcpojjjdglhhcaaDoorSgQ
set_option linter.unusedSimpArgs false
set_option linter.unusedVariables false
set_option maxRecDepth 100000
set_option maxHeartbeats 4000000
namespace Go.Ev.Tryd
open Go Go.Ev Go.Proofs

/-- What a right entry makes of a state. -/
def adv (s : State) (x : Entry) : State :=
  if x.kind = 0 then { s with time := x.time, holder := x.who, root := x.root }
  else if x.kind = 1 then { s with time := x.time, holder := x.to }
  else if x.kind = 2 then { s with time := x.time, opened := true }
  else if x.kind = 3 then { s with time := x.time, opened := false, root := x.root }
  else { s with time := x.time, holder := ByteArray.empty }
theorem step_adv {s : State} {f : Bool} {x : Entry} : (step s f x).2 = 0 → (step s f x).1 = adv s x ∧ 0 ≤ x.kind ∧ x.kind < 5 := by
  unfold step
  by_cases h0 : x.kind < 0 ∨ 5 ≤ x.kind
  · rw [if_pos h0]; intro h; exact absurd h (by decide)
  rw [if_neg h0]
  by_cases h1 : named x.who = false ∨ (x.kind = 1 ∧ named x.to = false)
  · rw [if_pos h1]; intro h; exact absurd h (by decide)
  rw [if_neg h1]
  by_cases h2 : (x.kind ≠ 1 ∧ x.to ≠ ByteArray.empty) ∨ (x.kind ≠ 0 ∧ x.kind ≠ 3 ∧ x.root ≠ 0)
  · rw [if_pos h2]; intro h; exact absurd h (by decide)
  rw [if_neg h2]
  by_cases h3 : x.time < s.time ∨ 4294967295 < x.time
  · rw [if_pos h3]; intro h; exact absurd h (by decide)
  rw [if_neg h3]
  by_cases h4 : decide (x.kind = 0) ≠ f
  · rw [if_pos h4]; intro h; exact absurd h (by decide)
  rw [if_neg h4]
  by_cases h5 : f = false ∧ x.who ≠ s.holder
  · rw [if_pos h5]; intro h; exact absurd h (by decide)
  rw [if_neg h5]
  by_cases h6 : s.opened ≠ decide (x.kind = 3)
  · rw [if_pos h6]; intro h; exact absurd h (by decide)
  rw [if_neg h6]
  by_cases h7 : x.kind = 1 ∧ x.to = x.who
  · rw [if_pos h7]; intro h; exact absurd h (by decide)
  rw [if_neg h7]
  intro _
  refine ⟨?_, by omega, by omega⟩
  unfold adv
  by_cases k0 : x.kind = 0
  · simp [k0]
  by_cases k1 : x.kind = 1
  · simp [k1]
  by_cases k2 : x.kind = 2
  · simp [k2]
  by_cases k3 : x.kind = 3
  · simp [k3]
  simp [k0, k1, k2, k3]
theorem keep_adv {s : State} {x : Entry} (h0 : 0 ≤ x.kind) (h5 : x.kind < 5) : keep (s.holder, s.opened, s.time) x = ((adv s x).holder, (adv s x).opened, (adv s x).time) := by
  have hk : x.kind = 0 ∨ x.kind = 1 ∨ x.kind = 2 ∨ x.kind = 3 ∨ x.kind = 4 := by omega
  rcases hk with h | h | h | h | h <;> simp [keep, adv, h]

theorem chain_ok (l : List Entry) (z : Bool) (hl : okL l) {k : Nat} (hk : 500 + szL l ≤ k) :
    evF Tryd.prog Γ (k + 1) 14 [roV z l.length (flatE entryE l)] [] = some (.tup [.agg (stateE.f (check l).1), .int .i64 ((check l).2.1 : Nat), .int .i64 (check l).2.2], []) := by
  rw [b14 (fun _ _ => rfl) _ _ (by simp)]
  by_cases h100 : (100 : Int) < l.length
  · have h' : 100 < l.length := by omega
    simp -implicitDefEqProofs [h100, check, h', stateE_f, state0]
  · have h' : ¬ 100 < l.length := by omega
    simp -implicitDefEqProofs [h100, check, h']
    generalize hT : checkGo state0 0 0 l = T
    generalize hx : evLoopC _ _ _ _ _ _ _ _ _ _ = R
    apply loop_gen hx (fun a : Nat × State × Int => (mkL 73 .junk [(0, roV z l.length (flatE entryE l)), (2, .ptr 1 0), (5, .ptr 2 0), (6, .int .u64 a.2.2), (14, roV z l.length (flatE entryE l)), (15, .int .i64 l.length), (16, .int .i64 a.1)],
        [none, some (.cells (stateE.f state0) true), some (.cells (stateE.f a.2.1) true), none]))
      (fun a => a.1 ≤ l.length ∧ u64 a.2.2 ∧ kept (l.take a.1) = (a.2.1.holder, a.2.1.opened, a.2.1.time) ∧ checkGo a.2.1 a.1 a.2.2 (l.drop a.1) = T) (fun a => l.length - a.1) (0, state0, 0)
    case hI => exact ⟨by simp, by simp [u64], rfl, by simpa using hT⟩
    case hq => simp only; omega
    case ht => simp -implicitDefEqProofs [liveOf, stateE_f, state0]
    case round =>
      rintro ⟨i, s, b⟩ ⟨hi, hb, hkp, hg⟩ _
      simp only at hi hb hg hkp
      clear hx hT
      by_cases hlt : i < l.length
      · have e2 : addI .i64 (i : Int) 1 = (i : Int) + 1 := addI_i64 (by omega) (by omega)
        have hxe := hl l[i] (List.getElem_mem hlt)
        have hsz := szE_le (List.getElem_mem hlt)
        rw [List.drop_eq_getElem_cons hlt] at hg
        have hkp' : kept (l.take (i + 1)) = keep (s.holder, s.opened, s.time) l[i] := by
          rw [List.take_succ_eq_append_getElem hlt, kept, List.foldl_append]
          show keep (kept (l.take i)) l[i] = _
          rw [hkp]
        have c1 := fault_ok l i hlt hl (by omega) s hkp (k := k - 1) (by omega)
        rw [← roV_pos (z := z) (n := l.length) (by omega)] at c1
        have c2 := summed_ok b hb l[i] hxe (k := k - 1) (by omega)
        obtain ⟨k, rfl⟩ : ∃ j, k = j + 1 := ⟨k - 1, by omega⟩
        simp only [Nat.add_sub_cancel] at c1 c2
        simp only [checkGo] at hg
        have hadv := @step_adv s (decide (i = 0)) l[i]
        generalize step s (decide (i = 0)) l[i] = st at c1 hg hadv
        obtain ⟨s', e⟩ := st
        simp only at hadv c1 hg
        simp only [entryE_f] at c2
        by_cases he : e = 0
        · obtain ⟨rfl, k0, k5⟩ := hadv he
          rw [keep_adv k0 k5] at hkp'
          by_cases hs : l[i].sum = sumS b l[i]
          · have hs3 : sumS b l[i] = l[i].sum := hs.symm
            have fin : ((i + 1, adv s l[i], l[i].sum) : Nat × State × Int).1 ≤ l.length ∧ u64 l[i].sum ∧ kept (l.take (i + 1)) = ((adv s l[i]).holder, (adv s l[i]).opened, (adv s l[i]).time) ∧ checkGo (adv s l[i]) (i + 1) l[i].sum (l.drop (i + 1)) = T :=
              ⟨hlt, hxe.sum, hkp', by simpa [he, hs3] using hg⟩
            by_cases q0 : l[i].kind = 0
            · rw [q0] at c2
              simp -implicitDefEqProofs [hlt, e2, c1, c2, he, hs3, stateE_f, entryE_f, q0]
              exact rnd_next (i + 1, adv s l[i], l[i].sum) (by exact fin) (by simp only; omega) (by simp -implicitDefEqProofs [liveOf, stateE_f, adv, q0])
            by_cases q1 : l[i].kind = 1
            · rw [q1] at c2
              simp -implicitDefEqProofs [hlt, e2, c1, c2, he, hs3, stateE_f, entryE_f, q1]
              exact rnd_next (i + 1, adv s l[i], l[i].sum) (by exact fin) (by simp only; omega) (by simp -implicitDefEqProofs [liveOf, stateE_f, adv, q1])
            by_cases q2 : l[i].kind = 2
            · rw [q2] at c2
              simp -implicitDefEqProofs [hlt, e2, c1, c2, he, hs3, stateE_f, entryE_f, q2]
              exact rnd_next (i + 1, adv s l[i], l[i].sum) (by exact fin) (by simp only; omega) (by simp -implicitDefEqProofs [liveOf, stateE_f, adv, q2])
            by_cases q3 : l[i].kind = 3
            · rw [q3] at c2
              simp -implicitDefEqProofs [hlt, e2, c1, c2, he, hs3, stateE_f, entryE_f, q3]
              exact rnd_next (i + 1, adv s l[i], l[i].sum) (by exact fin) (by simp only; omega) (by simp -implicitDefEqProofs [liveOf, stateE_f, adv, q3])
            simp -implicitDefEqProofs [hlt, e2, c1, c2, he, hs3, stateE_f, entryE_f, q0, q1, q2, q3]
            exact rnd_next (i + 1, adv s l[i], l[i].sum) (by exact fin) (by simp only; omega) (by simp -implicitDefEqProofs [liveOf, stateE_f, adv, q0, q1, q2, q3])
          · have hs3 : ¬ sumS b l[i] = l[i].sum := fun h => hs h.symm
            simp [he, hs] at hg
            subst hg
            simp -implicitDefEqProofs [hlt, e2, c1, c2, he, hs3, stateE_f, entryE_f, state0]
        · simp [he] at hg
          subst hg
          simp -implicitDefEqProofs [hlt, e2, c1, c2, he, stateE_f, entryE_f, state0]
      · have hi' : i = l.length := by omega
        subst hi'
        simp [checkGo] at hg
        subst hg
        simp -implicitDefEqProofs [stateE_f]
end Go.Ev.Tryd

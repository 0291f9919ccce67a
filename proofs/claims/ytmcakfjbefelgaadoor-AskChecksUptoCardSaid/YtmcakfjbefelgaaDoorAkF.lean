/-
  THE ASK SEAT: form: the error of one condition (printed by wip/tools/gen_form.py, own work).
-/
import Derived.Test.YtmcakfjbefelgaaDoorAkE
set_option linter.unusedSimpArgs false
set_option linter.unusedVariables false
set_option maxRecDepth 100000
set_option maxHeartbeats 4000000
namespace Go.Ev.Tryd
open Go Go.Ev Go.Proofs

/-- The shape of a condition is wrong. -/
def badC (c : Cond) : Bool :=
  (!(c.op == 1 || c.op == 2 || c.op == 3) && !decide (c.s = ByteArray.empty)) || (!(c.op == 4) && (!decide (c.low = 0) || !decide (c.high = 0))) || (!(c.op == 5 || c.op == 6 || c.op == 7) && decide (0 < c.kids.length)) || (c.op == 5 && !decide (c.kids.length = 1))
/-- The error of one condition. -/
def formC (c : Cond) : Int :=
  if c.op < 0 ∨ 8 ≤ c.op then 1 else if badC c = true then 3
  else if (c.op = 1 ∨ c.op = 2) ∧ named c.s = false then 6 else if c.op = 3 ∧ quoted c.s = false then 6
  else if c.op = 4 ∧ (c.high < c.low ∨ c.low < -4294967295 ∨ 4294967295 < c.high) then 21 else 0
theorem op_cases {o : Int} (h0 : ¬ o < 0) (h8 : ¬ 8 ≤ o) : o = 0 ∨ o = 1 ∨ o = 2 ∨ o = 3 ∨ o = 4 ∨ o = 5 ∨ o = 6 ∨ o = 7 := by omega
theorem len_cases (n : Nat) : n = 0 ∨ n = 1 ∨ ∃ m, n = m + 2 := by
  rcases n with _ | _ | n
  · exact .inl rfl
  · exact .inr (.inl rfl)
  · exact .inr (.inr ⟨n, rfl⟩)
theorem form_ok (c : Cond) {k : Nat} (hk : 200 < k) : evF Tryd.prog Γ (k + 1) 53 [.agg (condE.f c)] [] = some (.int .i64 (formC c), []) := by
  obtain ⟨k, rfl⟩ : ∃ j, k = j + 1 := ⟨k - 1, by omega⟩
  have c1 := askword_ok c.s (k := k) (by omega)
  have c2 := quoted_ok c.s (k := k) (by omega)
  have hfc : formC c = formC c := rfl
  conv at hfc => rhs; unfold formC badC
  rw [hfc, condE_f]
  clear hfc
  rw [b53 (fun _ _ => rfl) _ _ (by simp)]
  generalize c.op = o at *
  generalize named c.s = nm at *
  generalize hqd : quoted c.s = qd at *
  generalize c.s = s at *
  generalize c.low = lo at *
  generalize c.high = hi at *
  generalize flatE condE c.kids = cs at *
  generalize c.kids.length = n at *
  generalize c.z = z at *
  by_cases h0 : o < 0
  · have e1 : ¬ o = 1 := by omega
    have e2 : ¬ o = 2 := by omega
    have e3 : ¬ o = 3 := by omega
    have e4 : ¬ o = 4 := by omega
    have e5 : ¬ o = 5 := by omega
    have e6 : ¬ o = 6 := by omega
    have e7 : ¬ o = 7 := by omega
    simp -implicitDefEqProofs [h0, e1, e2, e3, e4, e5, e6, e7]
  by_cases h8 : 8 ≤ o
  · have e1 : ¬ o = 1 := by omega
    have e2 : ¬ o = 2 := by omega
    have e3 : ¬ o = 3 := by omega
    have e4 : ¬ o = 4 := by omega
    have e5 : ¬ o = 5 := by omega
    have e6 : ¬ o = 6 := by omega
    have e7 : ¬ o = 7 := by omega
    have h8' : 8 ≤ o := by omega
    simp -implicitDefEqProofs [h0, h8, h8', e1, e2, e3, e4, e5, e6, e7]
  rcases op_cases h0 (by omega) with ho | ho | ho | ho | ho | ho | ho | ho
  · subst ho
    by_cases hse : s = ByteArray.empty
    · subst hse
      by_cases hlo : lo = 0
      · subst hlo
        by_cases hhi : hi = 0
        · subst hhi
          cases n with
          | zero =>
            simp -implicitDefEqProofs [c1, c2]
          | succ n =>
            have hn : (0 : Int) < (n : Int) + 1 := by omega
            simp -implicitDefEqProofs [hn, c1, c2]
        · simp -implicitDefEqProofs [hhi, c1, c2]
      · simp -implicitDefEqProofs [hlo, c1, c2]
    · simp -implicitDefEqProofs [hse, c1, c2]
  · subst ho
    by_cases hlo : lo = 0
    · subst hlo
      by_cases hhi : hi = 0
      · subst hhi
        cases n with
        | zero =>
          cases nm with
          | false => simp -implicitDefEqProofs [c1, c2]
          | true =>
            simp -implicitDefEqProofs [c1, c2]
        | succ n =>
          have hn : (0 : Int) < (n : Int) + 1 := by omega
          simp -implicitDefEqProofs [hn, c1, c2]
      · simp -implicitDefEqProofs [hhi, c1, c2]
    · simp -implicitDefEqProofs [hlo, c1, c2]
  · subst ho
    by_cases hlo : lo = 0
    · subst hlo
      by_cases hhi : hi = 0
      · subst hhi
        cases n with
        | zero =>
          cases nm with
          | false => simp -implicitDefEqProofs [c1, c2]
          | true =>
            simp -implicitDefEqProofs [c1, c2]
        | succ n =>
          have hn : (0 : Int) < (n : Int) + 1 := by omega
          simp -implicitDefEqProofs [hn, c1, c2]
      · simp -implicitDefEqProofs [hhi, c1, c2]
    · simp -implicitDefEqProofs [hlo, c1, c2]
  · subst ho
    by_cases hlo : lo = 0
    · subst hlo
      by_cases hhi : hi = 0
      · subst hhi
        cases n with
        | zero =>
          cases qd with
          | false => simp -implicitDefEqProofs [c1, c2]
          | true =>
            simp -implicitDefEqProofs [c1, c2]
        | succ n =>
          have hn : (0 : Int) < (n : Int) + 1 := by omega
          simp -implicitDefEqProofs [hn, c1, c2]
      · simp -implicitDefEqProofs [hhi, c1, c2]
    · simp -implicitDefEqProofs [hlo, c1, c2]
  · subst ho
    by_cases hse : s = ByteArray.empty
    · subst hse
      cases n with
      | zero =>
        by_cases t1 : hi < lo
        · simp -implicitDefEqProofs [t1, c1, c2]
        by_cases t2 : lo < -4294967295
        · simp -implicitDefEqProofs [t1, t2, c1, c2]
        by_cases t3 : 4294967295 < hi
        · simp -implicitDefEqProofs [t1, t2, t3, c1, c2]
        simp -implicitDefEqProofs [t1, t2, t3, c1, c2]
      | succ n =>
        have hn : (0 : Int) < (n : Int) + 1 := by omega
        simp -implicitDefEqProofs [hn, c1, c2]
    · simp -implicitDefEqProofs [hse, c1, c2]
  · subst ho
    by_cases hse : s = ByteArray.empty
    · subst hse
      by_cases hlo : lo = 0
      · subst hlo
        by_cases hhi : hi = 0
        · subst hhi
          rcases len_cases n with rfl | rfl | ⟨m, rfl⟩
          · simp -implicitDefEqProofs [c1, c2]
          ·
            simp -implicitDefEqProofs [c1, c2]
          · have hn : ¬ (m : Int) + 2 = 1 := by omega
            have hn2 : ¬ (m : Int) + 1 + 1 = 1 := by omega
            simp -implicitDefEqProofs [hn, hn2, c1, c2]
        · simp -implicitDefEqProofs [hhi, c1, c2]
      · simp -implicitDefEqProofs [hlo, c1, c2]
    · simp -implicitDefEqProofs [hse, c1, c2]
  · subst ho
    by_cases hse : s = ByteArray.empty
    · subst hse
      by_cases hlo : lo = 0
      · subst hlo
        by_cases hhi : hi = 0
        · subst hhi
          simp -implicitDefEqProofs [c1, c2]
        · simp -implicitDefEqProofs [hhi, c1, c2]
      · simp -implicitDefEqProofs [hlo, c1, c2]
    · simp -implicitDefEqProofs [hse, c1, c2]
  · subst ho
    by_cases hse : s = ByteArray.empty
    · subst hse
      by_cases hlo : lo = 0
      · subst hlo
        by_cases hhi : hi = 0
        · subst hhi
          simp -implicitDefEqProofs [c1, c2]
        · simp -implicitDefEqProofs [hhi, c1, c2]
      · simp -implicitDefEqProofs [hlo, c1, c2]
    · simp -implicitDefEqProofs [hse, c1, c2]
end Go.Ev.Tryd

/-
  THE SEAL SEAT: the reference's EntryFault and ChainOf (own work).
-/
import Derived.Test.YtcpojjjdglhhcaaDoorSgP
set_option linter.unusedSimpArgs false
set_option linter.unusedVariables false
set_option maxRecDepth 100000
set_option maxHeartbeats 4000000
namespace Go.Ev.Tryd
open Go Go.Ev Go.Proofs

/-- What EntryFault keeps of the entries before: holder, open, last. -/
def keep (s : ByteArray × Bool × Int) (y : Entry) : ByteArray × Bool × Int :=
  (if y.kind = 0 then y.who else if y.kind = 1 then y.to else if y.kind = 4 then ByteArray.empty else s.1,
   decide (y.kind = 2) || (s.2.1 && !decide (y.kind = 3)), y.time)
def kept (l : List Entry) : ByteArray × Bool × Int := l.foldl keep (ByteArray.empty, false, 0)

theorem fault_ok (l : List Entry) (i : Nat) (hi : i < l.length) (hl : okL l) (h100 : l.length ≤ 101) (s : State) (hs : kept (l.take i) = (s.holder, s.opened, s.time)) {k : Nat} (hk : 400 + szL l ≤ k) :
    evF Tryd.prog Γ (k + 1) 19 [.ros l.length (flatE entryE l), .int .i64 i] [] = some (.int .i64 (step s (decide (i = 0)) l[i]).2, []) := by
  have hx0 := hl l[i] (List.getElem_mem hi)
  have hz0 := szE_le (List.getElem_mem hi)
  unfold szE at hz0
  obtain ⟨k, rfl⟩ : ∃ j, k = j + 1 := ⟨k - 1, by omega⟩
  have w1 := word_ok l[i].who hx0.who (k := k) (by omega)
  have w2 := word_ok l[i].to hx0.to (k := k) (by omega)
  have hle : i ≤ l.length := by omega
  rw [b19 (fun _ _ => rfl) _ _ (by simp)]
  simp -implicitDefEqProofs [hi, hle, take_flatE' (n := 6) entryE rfl]
  have hml : (l.take i).length = i := by rw [List.length_take]; omega
  generalize l.take i = m at *
  generalize l[i] = x at *
  subst hml
  generalize hT : kept m = T at hs
  generalize hx : evLoopC _ _ _ _ _ _ _ _ _ _ = R
  apply loop_gen hx (fun a : Nat × (ByteArray × Bool × Int) => (mkL 151 .junk [(1, .int .i64 m.length), (5, .ptr 0 0), (6, .str a.2.1), (7, .bool a.2.2.1), (8, .int .i64 a.2.2.2), (17, .ros m.length (flatE entryE m)), (18, .int .i64 m.length), (19, .int .i64 a.1)],
      [some (.cells (entryE.f x) true), none]))
    (fun a => a.1 ≤ m.length ∧ (m.drop a.1).foldl keep a.2 = T) (fun a => m.length - a.1) (0, ByteArray.empty, false, 0)
  case hI => exact ⟨by simp, by simpa [kept] using hT⟩
  case hq => simp only; omega
  case ht => simp -implicitDefEqProofs [liveOf]
  case round =>
    rintro ⟨j, h, o, t⟩ ⟨hj, hg⟩ hq
    simp only at hj hg
    clear hx hT
    by_cases hlt : j < m.length
    · have e2 : addI .i64 (j : Int) 1 = (j : Int) + 1 := addI_i64 (by omega) (by omega)
      rw [List.drop_eq_getElem_cons hlt, List.foldl_cons] at hg
      generalize hy : m[j] = y at hg
      obtain ⟨kd, who, to, tm, rt, sm⟩ := y
      by_cases k0 : kd = 0
      · subst k0
        cases o
        · simp -implicitDefEqProofs [hlt, e2, hy, entryE_f]
          exact rnd_next (j + 1, keep (h, false, t) ⟨_, who, to, tm, rt, sm⟩) ⟨hlt, hg⟩ (by simp only; omega) (by simp -implicitDefEqProofs [liveOf, entryE_f, keep])
        · simp -implicitDefEqProofs [hlt, e2, hy, entryE_f]
          exact rnd_next (j + 1, keep (h, true, t) ⟨_, who, to, tm, rt, sm⟩) ⟨hlt, hg⟩ (by simp only; omega) (by simp -implicitDefEqProofs [liveOf, entryE_f, keep])
      by_cases k1 : kd = 1
      · subst k1
        cases o
        · simp -implicitDefEqProofs [hlt, e2, hy, entryE_f]
          exact rnd_next (j + 1, keep (h, false, t) ⟨_, who, to, tm, rt, sm⟩) ⟨hlt, hg⟩ (by simp only; omega) (by simp -implicitDefEqProofs [liveOf, entryE_f, keep])
        · simp -implicitDefEqProofs [hlt, e2, hy, entryE_f]
          exact rnd_next (j + 1, keep (h, true, t) ⟨_, who, to, tm, rt, sm⟩) ⟨hlt, hg⟩ (by simp only; omega) (by simp -implicitDefEqProofs [liveOf, entryE_f, keep])
      by_cases k4 : kd = 4
      · subst k4
        cases o
        · simp -implicitDefEqProofs [hlt, e2, hy, entryE_f]
          exact rnd_next (j + 1, keep (h, false, t) ⟨_, who, to, tm, rt, sm⟩) ⟨hlt, hg⟩ (by simp only; omega) (by simp -implicitDefEqProofs [liveOf, entryE_f, keep])
        · simp -implicitDefEqProofs [hlt, e2, hy, entryE_f]
          exact rnd_next (j + 1, keep (h, true, t) ⟨_, who, to, tm, rt, sm⟩) ⟨hlt, hg⟩ (by simp only; omega) (by simp -implicitDefEqProofs [liveOf, entryE_f, keep])
      by_cases k2 : kd = 2
      · subst k2
        cases o
        · simp -implicitDefEqProofs [hlt, e2, hy, entryE_f]
          exact rnd_next (j + 1, keep (h, false, t) ⟨_, who, to, tm, rt, sm⟩) ⟨hlt, hg⟩ (by simp only; omega) (by simp -implicitDefEqProofs [liveOf, entryE_f, keep])
        · simp -implicitDefEqProofs [hlt, e2, hy, entryE_f]
          exact rnd_next (j + 1, keep (h, true, t) ⟨_, who, to, tm, rt, sm⟩) ⟨hlt, hg⟩ (by simp only; omega) (by simp -implicitDefEqProofs [liveOf, entryE_f, keep])
      by_cases k3 : kd = 3
      · subst k3
        cases o
        · simp -implicitDefEqProofs [hlt, e2, hy, entryE_f]
          exact rnd_next (j + 1, keep (h, false, t) ⟨_, who, to, tm, rt, sm⟩) ⟨hlt, hg⟩ (by simp only; omega) (by simp -implicitDefEqProofs [liveOf, entryE_f, keep])
        · simp -implicitDefEqProofs [hlt, e2, hy, entryE_f]
          exact rnd_next (j + 1, keep (h, true, t) ⟨_, who, to, tm, rt, sm⟩) ⟨hlt, hg⟩ (by simp only; omega) (by simp -implicitDefEqProofs [liveOf, entryE_f, keep])
      · cases o
        · simp -implicitDefEqProofs [hlt, e2, hy, entryE_f, k0, k1, k2, k3, k4]
          exact rnd_next (j + 1, keep (h, false, t) ⟨_, who, to, tm, rt, sm⟩) ⟨hlt, hg⟩ (by simp only; omega) (by simp -implicitDefEqProofs [liveOf, entryE_f, keep, k0, k1, k2, k3, k4])
        · simp -implicitDefEqProofs [hlt, e2, hy, entryE_f, k0, k1, k2, k3, k4]
          exact rnd_next (j + 1, keep (h, true, t) ⟨_, who, to, tm, rt, sm⟩) ⟨hlt, hg⟩ (by simp only; omega) (by simp -implicitDefEqProofs [liveOf, entryE_f, keep, k0, k1, k2, k3, k4])
    · have hj' : j = m.length := by omega
      subst hj'
      simp at hg
      subst hg
      cases hs
      clear hj hlt hle hi hz0 hk h100 hq
      obtain ⟨kind, who, to, time, root, sum⟩ := x
      obtain ⟨holder, opened, sroot, stime⟩ := s
      simp only at w1 w2 ⊢
      clear hx0 hl
      generalize flatE entryE m = fm
      generalize m.length = i
      simp -implicitDefEqProofs [entryE_f, w1, w2]
      repeat' ((first | split | skip) <;> (simp -implicitDefEqProofs only [stepF_true, stepF_false, condF_true, condF_false, hAF_true, hAF_false, dTF_true, dTF_false]) <;> (try simp -implicitDefEqProofs [entryE_f, w1, w2, *]))
      all_goals (try simp [step, state0, *])
      all_goals (try subst_vars)
      all_goals (try simp_all)
      all_goals (try (exfalso; omega))
      all_goals (try rw [if_pos (show (5 : Int) ≤ kind by omega)])
      all_goals (try rw [if_neg (show ¬ (5 : Int) ≤ kind by omega)])
      all_goals (try rfl)
      all_goals (try rw [if_neg (show ¬ to = holder from fun h => by simp_all)])
      all_goals (try rw [if_neg (show ¬ to = who from fun h => by simp_all)])
      all_goals (try (by_cases h2 : kind = 2 <;> simp [h2]; done))
      all_goals first
        | rfl
        | (exfalso; omega)
        | (exfalso; rename_i hh; simp_all; done)
        | (exfalso; rename_i hh; subst hh; simp_all; done)
        | (exfalso; simp_all; omega)
        | (rename_i hh; exact absurd hh.symm (by assumption))
        | (rename_i hh; subst hh; contradiction)
end Go.Ev.Tryd

/-
  THE ASK SEAT: node: the error of one condition (printed by wip/tools/gen_form.py, own work).
-/
import Derived.Test.YtmcakfjbefelgaaDoorAkF
set_option linter.unusedSimpArgs false
set_option linter.unusedVariables false
set_option maxRecDepth 100000
set_option maxHeartbeats 4000000
namespace Go.Ev.Tryd
open Go Go.Ev Go.Proofs

@[local simp] theorem ltr_es : (ByteArray.empty = (⟨#[115]⟩ : ByteArray)) = False := eq_false (by decide)
@[local simp] theorem ltr_et : (ByteArray.empty = (⟨#[116]⟩ : ByteArray)) = False := eq_false (by decide)
@[local simp] theorem ltr_eo : (ByteArray.empty = (⟨#[49]⟩ : ByteArray)) = False := eq_false (by decide)
@[local simp] theorem ltr_ek : (ByteArray.empty = (⟨#[107]⟩ : ByteArray)) = False := eq_false (by decide)
@[local simp] theorem ltr_se : ((⟨#[115]⟩ : ByteArray) = ByteArray.empty) = False := eq_false (by decide)
@[local simp] theorem ltr_st : ((⟨#[115]⟩ : ByteArray) = (⟨#[116]⟩ : ByteArray)) = False := eq_false (by decide)
@[local simp] theorem ltr_so : ((⟨#[115]⟩ : ByteArray) = (⟨#[49]⟩ : ByteArray)) = False := eq_false (by decide)
@[local simp] theorem ltr_sk : ((⟨#[115]⟩ : ByteArray) = (⟨#[107]⟩ : ByteArray)) = False := eq_false (by decide)
@[local simp] theorem ltr_te : ((⟨#[116]⟩ : ByteArray) = ByteArray.empty) = False := eq_false (by decide)
@[local simp] theorem ltr_ts : ((⟨#[116]⟩ : ByteArray) = (⟨#[115]⟩ : ByteArray)) = False := eq_false (by decide)
@[local simp] theorem ltr_to : ((⟨#[116]⟩ : ByteArray) = (⟨#[49]⟩ : ByteArray)) = False := eq_false (by decide)
@[local simp] theorem ltr_tk : ((⟨#[116]⟩ : ByteArray) = (⟨#[107]⟩ : ByteArray)) = False := eq_false (by decide)
@[local simp] theorem ltr_oe : ((⟨#[49]⟩ : ByteArray) = ByteArray.empty) = False := eq_false (by decide)
@[local simp] theorem ltr_os : ((⟨#[49]⟩ : ByteArray) = (⟨#[115]⟩ : ByteArray)) = False := eq_false (by decide)
@[local simp] theorem ltr_ot : ((⟨#[49]⟩ : ByteArray) = (⟨#[116]⟩ : ByteArray)) = False := eq_false (by decide)
@[local simp] theorem ltr_ok : ((⟨#[49]⟩ : ByteArray) = (⟨#[107]⟩ : ByteArray)) = False := eq_false (by decide)
@[local simp] theorem ltr_ke : ((⟨#[107]⟩ : ByteArray) = ByteArray.empty) = False := eq_false (by decide)
@[local simp] theorem ltr_ks : ((⟨#[107]⟩ : ByteArray) = (⟨#[115]⟩ : ByteArray)) = False := eq_false (by decide)
@[local simp] theorem ltr_kt : ((⟨#[107]⟩ : ByteArray) = (⟨#[116]⟩ : ByteArray)) = False := eq_false (by decide)
@[local simp] theorem ltr_ko : ((⟨#[107]⟩ : ByteArray) = (⟨#[49]⟩ : ByteArray)) = False := eq_false (by decide)
theorem node_ok (c : Cond) (hs : c.s.size ≤ 9223372036854775000) {k : Nat} (hk : c.s.size + 200 < k) : evF Tryd.prog Γ (k + 1) 28 [.agg (condE.f c)] [] = some (.int .i64 (formC c), []) := by
  obtain ⟨k, rfl⟩ : ∃ j, k = j + 1 := ⟨k - 1, by omega⟩
  have c1 := word_ok c.s hs (k := k) (by omega)
  have c5 := fun h => printable_ok c.s hs (k := k) h
  have hfc : formC c = formC c := rfl
  conv at hfc => rhs; unfold formC badC
  rw [hfc, condE_f]
  clear hfc
  rw [b28 (fun _ _ => rfl) _ _ (by simp)]
  generalize c.op = o at *
  generalize named c.s = nm at *
  generalize hqd : quoted c.s = qd at *
  generalize c.s = s at *
  generalize c.low = lo at *
  generalize c.high = hi at *
  generalize flatE condE c.kids = cs at *
  generalize c.kids.length = n at *
  generalize c.z = z at *
  by_cases h0 : o < 0
  · have e1 : ¬ o = 1 := by omega
    have e2 : ¬ o = 2 := by omega
    have e3 : ¬ o = 3 := by omega
    have e4 : ¬ o = 4 := by omega
    have e5 : ¬ o = 5 := by omega
    have e6 : ¬ o = 6 := by omega
    have e7 : ¬ o = 7 := by omega
    simp -implicitDefEqProofs [h0, e1, e2, e3, e4, e5, e6, e7]
  by_cases h8 : 7 < o
  · have e1 : ¬ o = 1 := by omega
    have e2 : ¬ o = 2 := by omega
    have e3 : ¬ o = 3 := by omega
    have e4 : ¬ o = 4 := by omega
    have e5 : ¬ o = 5 := by omega
    have e6 : ¬ o = 6 := by omega
    have e7 : ¬ o = 7 := by omega
    have h8' : 8 ≤ o := by omega
    simp -implicitDefEqProofs [h0, h8, h8', e1, e2, e3, e4, e5, e6, e7]
  rcases op_cases h0 (by omega) with ho | ho | ho | ho | ho | ho | ho | ho
  · subst ho
    by_cases hse : s = ByteArray.empty
    · subst hse
      by_cases hlo : lo = 0
      · subst hlo
        by_cases hhi : hi = 0
        · subst hhi
          cases n with
          | zero =>
            simp -implicitDefEqProofs [c1]
          | succ n =>
            have hn : (0 : Int) < (n : Int) + 1 := by omega
            simp -implicitDefEqProofs [hn, c1]
        · simp -implicitDefEqProofs [hhi, c1]
      · simp -implicitDefEqProofs [hlo, c1]
    · simp -implicitDefEqProofs [hse, c1]
  · subst ho
    by_cases hlo : lo = 0
    · subst hlo
      by_cases hhi : hi = 0
      · subst hhi
        cases n with
        | zero =>
          cases nm with
          | false => simp -implicitDefEqProofs [c1]
          | true =>
            simp -implicitDefEqProofs [c1]
        | succ n =>
          have hn : (0 : Int) < (n : Int) + 1 := by omega
          simp -implicitDefEqProofs [hn, c1]
      · simp -implicitDefEqProofs [hhi, c1]
    · simp -implicitDefEqProofs [hlo, c1]
  · subst ho
    by_cases hlo : lo = 0
    · subst hlo
      by_cases hhi : hi = 0
      · subst hhi
        cases n with
        | zero =>
          cases nm with
          | false => simp -implicitDefEqProofs [c1]
          | true =>
            simp -implicitDefEqProofs [c1]
        | succ n =>
          have hn : (0 : Int) < (n : Int) + 1 := by omega
          simp -implicitDefEqProofs [hn, c1]
      · simp -implicitDefEqProofs [hhi, c1]
    · simp -implicitDefEqProofs [hlo, c1]
  · subst ho
    by_cases hlo : lo = 0
    · subst hlo
      by_cases hhi : hi = 0
      · subst hhi
        cases n with
        | zero =>
          by_cases q1 : s = ByteArray.empty
          · subst q1
            have hq : qd = false := by rw [← hqd]; rfl
            simp -implicitDefEqProofs [hq, c1]
          have hpos : 0 < s.size := by
            rcases Nat.eq_zero_or_pos s.size with h | h
            · exact absurd (ByteArray.size_eq_zero_iff.1 h) q1
            · exact h
          by_cases q2 : (40 : Int) < s.size
          · have h41 : ¬ s.size ≤ 40 := by omega
            have hq : qd = false := by rw [← hqd]; unfold quoted; simp [h41]
            simp -implicitDefEqProofs [q1, q2, hq, c1]
          have q3 : s.size ≤ 40 := by omega
          have c5 := c5 (by omega)
          have hq : qd = allQ s := by rw [← hqd]; unfold quoted; simp [hpos, q3]
          rw [hq]
          cases hA : allQ s with
          | false => rw [hA] at c5; simp -implicitDefEqProofs [q1, q2, c5, c1]
          | true => rw [hA] at c5; simp -implicitDefEqProofs [q1, q2, c5, c1]
        | succ n =>
          have hn : (0 : Int) < (n : Int) + 1 := by omega
          simp -implicitDefEqProofs [hn, c1]
      · simp -implicitDefEqProofs [hhi, c1]
    · simp -implicitDefEqProofs [hlo, c1]
  · subst ho
    by_cases hse : s = ByteArray.empty
    · subst hse
      cases n with
      | zero =>
        by_cases t1 : hi < lo
        · simp -implicitDefEqProofs [t1, c1]
        by_cases t2 : lo < -4294967295
        · simp -implicitDefEqProofs [t1, t2, c1]
        by_cases t3 : 4294967295 < hi
        · simp -implicitDefEqProofs [t1, t2, t3, c1]
        simp -implicitDefEqProofs [t1, t2, t3, c1]
      | succ n =>
        have hn : (0 : Int) < (n : Int) + 1 := by omega
        simp -implicitDefEqProofs [hn, c1]
    · simp -implicitDefEqProofs [hse, c1]
  · subst ho
    by_cases hse : s = ByteArray.empty
    · subst hse
      by_cases hlo : lo = 0
      · subst hlo
        by_cases hhi : hi = 0
        · subst hhi
          rcases len_cases n with rfl | rfl | ⟨m, rfl⟩
          · simp -implicitDefEqProofs [c1]
          ·
            simp -implicitDefEqProofs [c1]
          · have hn : ¬ (m : Int) + 2 = 1 := by omega
            have hn2 : ¬ (m : Int) + 1 + 1 = 1 := by omega
            simp -implicitDefEqProofs [hn, hn2, c1]
        · simp -implicitDefEqProofs [hhi, c1]
      · simp -implicitDefEqProofs [hlo, c1]
    · simp -implicitDefEqProofs [hse, c1]
  · subst ho
    by_cases hse : s = ByteArray.empty
    · subst hse
      by_cases hlo : lo = 0
      · subst hlo
        by_cases hhi : hi = 0
        · subst hhi
          simp -implicitDefEqProofs [c1]
        · simp -implicitDefEqProofs [hhi, c1]
      · simp -implicitDefEqProofs [hlo, c1]
    · simp -implicitDefEqProofs [hse, c1]
  · subst ho
    by_cases hse : s = ByteArray.empty
    · subst hse
      by_cases hlo : lo = 0
      · subst hlo
        by_cases hhi : hi = 0
        · subst hhi
          simp -implicitDefEqProofs [c1]
        · simp -implicitDefEqProofs [hhi, c1]
      · simp -implicitDefEqProofs [hlo, c1]
    · simp -implicitDefEqProofs [hse, c1]
end Go.Ev.Tryd

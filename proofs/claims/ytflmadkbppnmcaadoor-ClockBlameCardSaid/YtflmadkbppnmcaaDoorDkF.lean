/-
  THE CLOCK DOOR SEAT (printed by wip/tools/port.py): names (own work).
-/
import Derived.Test.YtflmadkbppnmcaaDoorDkG
import Derived.Test.YtflmadkbppnmcaaDoorDkC0
set_option linter.unusedSimpArgs false
set_option linter.unusedVariables false
set_option maxRecDepth 100000
set_option maxHeartbeats 4000000
namespace Go.Ev.Tryd
open Go Go.Ev Go.Proofs

def letter (c : Int) : Bool := !((decide (c < 97) || decide (122 < c)) && (decide (c < 48) || decide (57 < c)) && !decide (c = 45))
def named (s : ByteArray) : Bool := match bytesI s with
  | [] => false
  | c :: l => decide (97 ≤ c) && decide (c ≤ 122) && decide (s.size ≤ 12) && (c :: l).all letter

theorem named_ok (s : ByteArray) {k : Nat} (hk : 20 < k) : evF Tryd.prog Γ (k + 1) 32 [.str s] [] = some (.bool (named s), []) := by
  rw [b32 (fun _ _ => rfl) _ _ (by simp)]
  by_cases h1 : s = ByteArray.empty
  · subst h1
    simp -implicitDefEqProofs [named, bytesI]
  · have hs : 0 < s.size := by
      rcases Nat.eq_zero_or_pos s.size with h | h
      · exact absurd (ByteArray.size_eq_zero_iff.1 h) h1
      · exact h
    have hl : 0 < (bytesI s).length := by simpa using hs
    obtain ⟨c, l, hcl⟩ : ∃ c l, bytesI s = c :: l := by
      cases h : bytesI s with
      | nil => rw [h] at hl; simp at hl
      | cons c l => exact ⟨c, l, rfl⟩
    have hb : byteAt s 0 = c := by
      have := byteAt_eq s 0 hl
      simp only [hcl, List.getElem_cons_zero] at this
      exact this
    by_cases h2 : (12 : Int) < s.size
    · have h2' : ¬ s.size ≤ 12 := by omega
      simp -implicitDefEqProofs [h1, h2, h2', named, hcl]
    · have h2' : s.size ≤ 12 := by omega
      by_cases h3 : c < 97
      · have h3' : ¬ 97 ≤ c := by omega
        simp -implicitDefEqProofs [h1, h2, h2', h3, h3', hb, hs, named, hcl]
      · have h3' : 97 ≤ c := by omega
        by_cases h4 : 122 < c
        · have h4' : ¬ c ≤ 122 := by omega
          simp -implicitDefEqProofs [h1, h2, h2', h3, h3', h4, h4', hb, hs, named, hcl]
        · have h4' : c ≤ 122 := by omega
          simp -implicitDefEqProofs [h1, h2, h2', h3, h3', h4, h4', hb, hs, named, hcl]
          rw [← List.all_cons, ← hcl]
          clear hb hcl hl
          generalize hA : (bytesI s).all letter = A
          generalize hx : evLoopC _ _ _ _ _ _ _ _ _ _ = R
          apply loop_gen hx (fun i : Nat => (mkL 49 .junk [(0, .str s), (23, .int .i64 s.size), (24, .int .i64 i)], ([] : Heap)))
            (fun i => i ≤ s.size ∧ ((bytesI s).drop i).all letter = A) (fun i => s.size - i) 0
          case hI => exact ⟨by simp, hA⟩
          case hq => omega
          case ht => simp -implicitDefEqProofs [liveOf]
          case round =>
            rintro i ⟨hi, hg⟩ _
            clear hx hA
            by_cases hlt : i < s.size
            · have e2 : addI .i64 (i : Int) 1 = (i : Int) + 1 := addI_i64 (by omega) (by omega)
              have hlt' : i < (bytesI s).length := by simpa using hlt
              have hbi := byteAt_eq s i hlt'
              rw [List.drop_eq_getElem_cons hlt', List.all_cons] at hg
              generalize (bytesI s)[i] = d at hbi hg
              simp -implicitDefEqProofs [hlt, e2, hbi]
              repeat' ((first | split | skip) <;> (simp -implicitDefEqProofs only [stepF_true, stepF_false, condF_true, condF_false, hAF_true, hAF_false, dTF_true, dTF_false]) <;> (try simp -implicitDefEqProofs [hlt, e2, hbi, *]))
              all_goals first
                | (refine rnd_next (i + 1) ⟨by omega, ?_⟩ (by omega) (by simp -implicitDefEqProofs [liveOf]); simpa [letter, *] using hg; done)
                | (simpa [letter, *] using hg; done)
                | (simpa [letter, *] using hg.symm; done)
            · have hi' : i = s.size := by omega
              subst hi'
              have : (bytesI s).drop s.size = [] := List.drop_of_length_le (by simp)
              rw [this] at hg
              simp -implicitDefEqProofs [← hg]


/-! ### The reference's Word -/
end Go.Ev.Tryd

/-
  THE ASK SEAT: names (own work).
-/
import Derived.Test.YtmcakfjbefelgaaDoorAkC0
set_option linter.unusedSimpArgs false
set_option linter.unusedVariables false
set_option maxRecDepth 100000
set_option maxHeartbeats 4000000
namespace Go.Ev.Tryd
open Go Go.Ev Go.Proofs

def letter (c : Int) : Bool := !((decide (c < 97) || decide (122 < c)) && (decide (c < 48) || decide (57 < c)) && !decide (c = 45))
def named (s : ByteArray) : Bool := match bytesI s with
  | [] => false
  | c :: l => decide (97 ≤ c) && decide (c ≤ 122) && decide (s.size ≤ 12) && (c :: l).all letter

theorem named_ok (s : ByteArray) {k : Nat} (hk : 20 < k) : evF Tryd.prog Γ (k + 1) 82 [.str s] [] = some (.bool (named s), []) := by
  rw [b82 (fun _ _ => rfl) _ _ (by simp)]
  by_cases h1 : s = ByteArray.empty
  · subst h1
    simp -implicitDefEqProofs [named, bytesI]
  · have hs : 0 < s.size := by
      rcases Nat.eq_zero_or_pos s.size with h | h
      · exact absurd (ByteArray.size_eq_zero_iff.1 h) h1
      · exact h
    have hl : 0 < (bytesI s).length := by simpa using hs
    obtain ⟨c, l, hcl⟩ : ∃ c l, bytesI s = c :: l := by
      cases h : bytesI s with
      | nil => rw [h] at hl; simp at hl
      | cons c l => exact ⟨c, l, rfl⟩
    have hb : byteAt s 0 = c := by
      have := byteAt_eq s 0 hl
      simp only [hcl, List.getElem_cons_zero] at this
      exact this
    by_cases h2 : (12 : Int) < s.size
    · have h2' : ¬ s.size ≤ 12 := by omega
      simp -implicitDefEqProofs [h1, h2, h2', named, hcl]
    · have h2' : s.size ≤ 12 := by omega
      by_cases h3 : c < 97
      · have h3' : ¬ 97 ≤ c := by omega
        simp -implicitDefEqProofs [h1, h2, h2', h3, h3', hb, hs, named, hcl]
      · have h3' : 97 ≤ c := by omega
        by_cases h4 : 122 < c
        · have h4' : ¬ c ≤ 122 := by omega
          simp -implicitDefEqProofs [h1, h2, h2', h3, h3', h4, h4', hb, hs, named, hcl]
        · have h4' : c ≤ 122 := by omega
          simp -implicitDefEqProofs [h1, h2, h2', h3, h3', h4, h4', hb, hs, named, hcl]
          rw [← List.all_cons, ← hcl]
          clear hb hcl hl
          generalize hA : (bytesI s).all letter = A
          generalize hx : evLoopC _ _ _ _ _ _ _ _ _ _ = R
          apply loop_gen hx (fun i : Nat => (mkL 49 .junk [(0, .str s), (23, .int .i64 s.size), (24, .int .i64 i)], ([] : Heap)))
            (fun i => i ≤ s.size ∧ ((bytesI s).drop i).all letter = A) (fun i => s.size - i) 0
          case hI => exact ⟨by simp, hA⟩
          case hq => omega
          case ht => simp -implicitDefEqProofs [liveOf]
          case round =>
            rintro i ⟨hi, hg⟩ _
            clear hx hA
            by_cases hlt : i < s.size
            · have e2 : addI .i64 (i : Int) 1 = (i : Int) + 1 := addI_i64 (by omega) (by omega)
              have hlt' : i < (bytesI s).length := by simpa using hlt
              have hbi := byteAt_eq s i hlt'
              rw [List.drop_eq_getElem_cons hlt', List.all_cons] at hg
              generalize (bytesI s)[i] = d at hbi hg
              simp -implicitDefEqProofs [hlt, e2, hbi]
              repeat' ((first | split | skip) <;> (simp -implicitDefEqProofs only [stepF_true, stepF_false, condF_true, condF_false, hAF_true, hAF_false, dTF_true, dTF_false]) <;> (try simp -implicitDefEqProofs [hlt, e2, hbi, *]))
              all_goals first
                | (refine rnd_next (i + 1) ⟨by omega, ?_⟩ (by omega) (by simp -implicitDefEqProofs [liveOf]); simpa [letter, *] using hg; done)
                | (simpa [letter, *] using hg; done)
                | (simpa [letter, *] using hg.symm; done)
            · have hi' : i = s.size := by omega
              subst hi'
              have : (bytesI s).drop s.size = [] := List.drop_of_length_le (by simp)
              rw [this] at hg
              simp -implicitDefEqProofs [← hg]


/-! ### The reference's Word -/
def lower (c : Int) : Bool := decide (97 ≤ c) && decide (c ≤ 122)
theorem named_false {s : ByteArray} {i : Nat} (h : i < (bytesI s).length) (hc : letter (bytesI s)[i] = false) : named s = false := by
  unfold named
  have hm : (bytesI s)[i] ∈ bytesI s := List.getElem_mem h
  generalize (bytesI s)[i] = c at *
  cases hb : bytesI s with
  | nil => rfl
  | cons a l =>
    rw [hb] at hm
    have : (a :: l).all letter = false := by
      rw [← Bool.not_eq_true, List.all_eq_true]
      intro h; have := h c hm; rw [hc] at this; cases this
    simp only [this, Bool.and_false]
theorem named_false0 {s : ByteArray} (h : 0 < (bytesI s).length) (hc : lower (bytesI s)[0] = false) : named s = false := by
  unfold named
  cases hb : bytesI s with
  | nil => rfl
  | cons a l =>
    simp only [hb, List.getElem_cons_zero] at hc
    unfold lower at hc
    simp only [hc, Bool.false_and]
theorem named_all {s : ByteArray} (h0 : ∀ (h : 0 < (bytesI s).length), lower (bytesI s)[0] = true) (ha : (bytesI s).all letter = true) : named s = (decide (0 < s.size) && decide (s.size ≤ 12)) := by
  unfold named
  have hl := bytesI_length s
  cases hb : bytesI s with
  | nil => rw [hb] at hl; simp at hl; simp [← hl]
  | cons a l =>
    have := h0 (by rw [hb]; simp)
    simp only [hb, List.getElem_cons_zero] at this
    unfold lower at this
    rw [hb] at ha hl
    simp at hl
    have hp : 0 < s.size := by omega
    show (decide (97 ≤ a) && decide (a ≤ 122) && decide (s.size ≤ 12) && (a :: l).all letter) = _
    rw [this, ha]
    simp [hp]
theorem conv_bytes (H : Heap) (s : ByteArray) : convertV Tryd.prog H 9 35 (.str s) = some (.ros s.size (flatE (intE .u8) (bytesI s)), H) := by
  simp [convertV]
theorem word_ok (s : ByteArray) (hs : s.size ≤ 9223372036854775000) {k : Nat} (hk : s.size + 20 < k) : evF Tryd.prog Γ (k + 1) 54 [.str s] [] = some (.bool (named s), []) := by
  have hl := bytesI_length s
  rw [b54 (fun _ _ => rfl) _ _ (by simp)]
  simp -implicitDefEqProofs [conv_bytes]
  generalize hx : evLoopC _ _ _ _ _ _ _ _ _ _ = R
  apply loop_gen hx (fun i : Nat => (mkL 44 .junk [(0, .str s), (6, .ros s.size (flatE (intE .u8) (bytesI s))), (7, .int .i64 s.size), (8, .int .i64 i)], [none]))
    (fun i => i ≤ s.size ∧ (∀ (h : 0 < (bytesI s).length), 0 < i → lower (bytesI s)[0] = true) ∧ ((bytesI s).take i).all letter = true) (fun i => s.size - i) 0
  case hI => simp
  case hq => omega
  case ht => simp -implicitDefEqProofs [liveOf]
  case round =>
    rintro i ⟨hi, hg0, hga⟩ _
    clear hx
    by_cases hlt : i < s.size
    · have hlt2 : (i : Int) < s.size := by omega
      have e2 : addI .i64 (i : Int) 1 = (i : Int) + 1 := addI_i64 (by omega) (by omega)
      have hlt' : i < (bytesI s).length := by omega
      have mi := at_flatE1 (intE .u8) rfl (bytesI s) i hlt'
      have hta : letter (bytesI s)[i] = true → ((bytesI s).take (i + 1)).all letter = true := fun h => by
        rw [List.take_succ_eq_append_getElem hlt', List.all_append, hga]; simp [h]
      have hnf := named_false (s := s) hlt'
      have hn0 : i = 0 → lower (bytesI s)[i] = false → named s = false := fun h => by subst h; exact named_false0 hlt'
      have hg1 : lower (bytesI s)[i] = true ∨ 0 < i → ∀ (h : 0 < (bytesI s).length), 0 < i + 1 → lower (bytesI s)[0] = true := fun h hp _ => by
        rcases Nat.eq_zero_or_pos i with h0 | h0
        · subst h0
          rcases h with h | h
          · exact h
          · omega
        · exact hg0 hp h0
      generalize (bytesI s)[i] = d at *
      by_cases a1 : 97 ≤ d ∧ d ≤ 122
      · obtain ⟨a1, a2⟩ := a1
        have hd : letter d = true := by unfold letter; have : ¬ d < 97 := by omega
                                        have : ¬ 122 < d := by omega
                                        simp [*]
        have hd2 : lower d = true := by unfold lower; simp [a1, a2]
        simp -implicitDefEqProofs [hlt, hlt2, e2, mi, a1, a2]
        exact rnd_next (i + 1) ⟨by omega, fun h hp => hg1 (.inl hd2) (by omega) hp, by simpa using hta hd⟩ (by omega) (by simp -implicitDefEqProofs [liveOf])
      · have hlow : lower d = false := by unfold lower; rw [← Bool.not_eq_true]; simp; omega
        rcases Nat.eq_zero_or_pos i with h0 | h0
        · have := hn0 h0 hlow
          subst h0
          by_cases a2 : 97 ≤ d
          · have a3 : ¬ d ≤ 122 := by omega
            simp at mi hlt2
            simp -implicitDefEqProofs [hlt, hlt2, mi, a2, a3, this]
          · simp at mi hlt2
            simp -implicitDefEqProofs [hlt, hlt2, mi, a2, this]
        · have hp : (0 : Int) < (i : Int) := by omega
          by_cases b1 : 97 ≤ d
          · have b2 : ¬ d ≤ 122 := fun h => a1 ⟨b1, h⟩
            have hd : letter d = false := by unfold letter; simp; omega
            have b3 : 48 ≤ d := by omega
            have b4 : ¬ d ≤ 57 := by omega
            have b5 : ¬ d = 45 := by omega
            simp -implicitDefEqProofs [hlt, hlt2, e2, mi, b1, b2, b3, b4, b5, hp, h0, hnf hd]
          · by_cases b3 : 48 ≤ d
            · by_cases b4 : d ≤ 57
              · have hd : letter d = true := by unfold letter; simp; omega
                simp -implicitDefEqProofs [hlt, hlt2, e2, mi, b1, b3, b4, hp, h0]
                exact rnd_next (i + 1) ⟨by omega, fun h hp => hg1 (.inr h0) (by omega) hp, by simpa using hta hd⟩ (by omega) (by simp -implicitDefEqProofs [liveOf])
              · have hd : letter d = false := by unfold letter; simp; omega
                have b5 : ¬ d = 45 := by omega
                simp -implicitDefEqProofs [hlt, hlt2, e2, mi, b1, b3, b4, b5, hp, h0, hnf hd]
            · by_cases b5 : d = 45
              · have hd : letter d = true := by unfold letter; simp; omega
                subst b5
                simp -implicitDefEqProofs [hlt, hlt2, e2, mi, hp, h0]
                exact rnd_next (i + 1) ⟨by omega, fun h hp => hg1 (.inr h0) (by omega) hp, by simpa using hta hd⟩ (by omega) (by simp -implicitDefEqProofs [liveOf])
              · have hd : letter d = false := by unfold letter; simp; omega
                simp -implicitDefEqProofs [hlt, hlt2, e2, mi, b1, b3, b5, hp, h0, hnf hd]
    · have hi' : i = s.size := by omega
      subst hi'
      have ht : (bytesI s).take s.size = bytesI s := List.take_of_length_le (by omega)
      rw [ht] at hga
      have hn := named_all (s := s) (fun h => hg0 h (by omega)) hga
      by_cases h0 : 0 < s.size
      · have h0' : (0 : Int) < s.size := by omega
        by_cases h12 : s.size ≤ 12
        · have h12' : (s.size : Int) ≤ 12 := by omega
          simp -implicitDefEqProofs [hn, h0, h0', h12, h12']
        · have h12' : ¬ (s.size : Int) ≤ 12 := by omega
          simp -implicitDefEqProofs [hn, h0, h0', h12, h12']
      · have h0' : ¬ (0 : Int) < s.size := by omega
        simp -implicitDefEqProofs [hn, h0, h0']
theorem askword_ok (s : ByteArray) {k : Nat} (hk : 21 < k) : evF Tryd.prog Γ (k + 1) 70 [.str s] [] = some (.bool (named s), []) := by
  obtain ⟨k, rfl⟩ : ∃ j, k = j + 1 := ⟨k - 1, by omega⟩
  have c := named_ok s (k := k) (by omega)
  rw [b70 (fun _ _ => rfl) _ _ (by simp)]
  simp -implicitDefEqProofs [c]
end Go.Ev.Tryd

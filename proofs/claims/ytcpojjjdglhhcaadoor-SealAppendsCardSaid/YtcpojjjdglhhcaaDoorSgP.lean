/-
  THE SEAL SEAT: the reference's Word (own work).
-/
import Derived.Test.YtcpojjjdglhhcaaDoorSgF
set_option linter.unusedSimpArgs false
set_option linter.unusedVariables false
set_option maxRecDepth 100000
set_option maxHeartbeats 4000000
namespace Go.Ev.Tryd
open Go Go.Ev Go.Proofs

/-- One letter of a name, where it may be the first. -/
def letterAt (first : Bool) (c : Int) : Bool := (decide (97 ≤ c) && decide (c ≤ 122)) || (!first && ((decide (48 ≤ c) && decide (c ≤ 57)) || decide (c = 45)))
def wordGo (first : Bool) : List Int → Bool
  | [] => true
  | c :: l => letterAt first c && wordGo false l
def word (s : ByteArray) : Bool := wordGo true (bytesI s) && (decide (0 < s.size) && decide (s.size ≤ 12))

theorem wordGo_false (l : List Int) : wordGo false l = l.all letter := by
  induction l with
  | nil => rfl
  | cons c l ih =>
    have e : letterAt false c = letter c := by
      unfold letterAt letter
      by_cases h1 : c < 97 <;> by_cases h2 : 122 < c <;> by_cases h3 : c < 48 <;> by_cases h4 : 57 < c <;> by_cases h5 : c = 45 <;> simp [*] <;> omega
    rw [wordGo, List.all_cons, ih, e]
theorem word_named (s : ByteArray) : word s = named s := by
  unfold word named
  have hl : (bytesI s).length = s.size := by simp
  cases h : bytesI s with
  | nil =>
    rw [h] at hl
    have : s.size = 0 := by simpa using hl.symm
    simp [this]
  | cons c l =>
    rw [h] at hl
    have h0 : 0 < s.size := by rw [← hl]; simp
    simp only [wordGo, List.all_cons, wordGo_false, h0, decide_true, Bool.true_and]
    by_cases h1 : 97 ≤ c
    · by_cases h2 : c ≤ 122
      · have e1 : letterAt true c = true := by simp [letterAt, h1, h2]
        have e2 : letter c = true := by
          have a : ¬ c < 97 := by omega
          have b : ¬ 122 < c := by omega
          simp [letter, a, b]
        simp only [e1, e2, h1, h2, decide_true, Bool.true_and]
        exact Bool.and_comm _ _
      · simp [letterAt, h1, h2]
    · simp [letterAt, h1]

theorem word_ok (s : ByteArray) (hs : s.size ≤ 140737488351232) {k : Nat} (hk : 20 + s.size < k) : evF Tryd.prog Γ (k + 1) 30 [.str s] [] = some (.bool (named s), []) := by
  rw [← word_named]
  rw [b30 (fun _ _ => rfl) _ _ (by simp)]
  simp -implicitDefEqProofs [convertV]
  generalize hT : word s = T
  generalize hx : evLoopC _ _ _ _ _ _ _ _ _ _ = R
  apply loop_gen hx (fun i : Nat => (mkL 44 .junk [(0, .str s), (6, .sl 0 0 s.size 1), (7, .int .i64 s.size), (8, .int .i64 i)], [some (.cells (flatE (intE .u8) (bytesI s)) false)]))
    (fun i => i ≤ s.size ∧ (wordGo (decide (i = 0)) ((bytesI s).drop i) && (decide (0 < s.size) && decide (s.size ≤ 12))) = T) (fun i => s.size - i) 0
  case hI => exact ⟨by simp, by simpa [word] using hT⟩
  case hq => omega
  case ht => simp -implicitDefEqProofs [liveOf]
  case round =>
    rintro i ⟨hi, hg⟩ _
    clear hx hT
    by_cases hlt : i < s.size
    · have e2 : addI .i64 (i : Int) 1 = (i : Int) + 1 := addI_i64 (by omega) (by omega)
      have hlt' : i < (bytesI s).length := by simpa using hlt
      have hd : (flatE (intE .u8) (bytesI s)).drop i = V.int .u8 (bytesI s)[i] :: (flatE (intE .u8) (bytesI s)).drop (i + 1) := by
        rw [drop_flatE1 (intE .u8) rfl, drop_flatE1 (intE .u8) rfl, List.drop_eq_getElem_cons hlt']
        rfl
      rw [List.drop_eq_getElem_cons hlt', wordGo] at hg
      generalize (bytesI s)[i] = c at hg hd
      have f0 : decide (i + 1 = 0) = false := by simp
      by_cases h0 : i = 0
      · subst h0
        simp only [Int.natCast_zero] at *
        by_cases h1 : 97 ≤ c
        · by_cases h2 : c ≤ 122
          · simp -implicitDefEqProofs [hlt, e2, hd, h1, h2]
            refine rnd_next 1 ⟨by omega, ?_⟩ (by omega) (by simp -implicitDefEqProofs [liveOf])
            simpa [letterAt, h1, h2, hlt] using hg
          · simp -implicitDefEqProofs [hlt, e2, hd, h1, h2]
            simpa [letterAt, h1, h2] using hg
        · simp -implicitDefEqProofs [hlt, e2, hd, h1]
          simpa [letterAt, h1] using hg
      · have hi0 : 0 < i := by omega
        by_cases h1 : 97 ≤ c
        · by_cases h2 : c ≤ 122
          · simp -implicitDefEqProofs [hlt, e2, hd, h1, h2, hi0]
            refine rnd_next (i + 1) ⟨by omega, ?_⟩ (by omega) (by simp -implicitDefEqProofs [liveOf])
            simpa [letterAt, h1, h2, h0] using hg
          · have h3 : 48 ≤ c := by omega
            have h4 : ¬ c ≤ 57 := by omega
            have h5 : ¬ c = 45 := by omega
            simp -implicitDefEqProofs [hlt, e2, hd, h1, h2, h3, h4, h5, hi0]
            simpa [letterAt, h1, h2, h0, h3, h4, h5] using hg
        · by_cases h3 : 48 ≤ c
          · have h5 : ¬ c = 45 := by omega
            by_cases h4 : c ≤ 57
            · simp -implicitDefEqProofs [hlt, e2, hd, h1, h3, h4, hi0]
              refine rnd_next (i + 1) ⟨by omega, ?_⟩ (by omega) (by simp -implicitDefEqProofs [liveOf])
              simpa [letterAt, h1, h0, h3, h4] using hg
            · simp -implicitDefEqProofs [hlt, e2, hd, h1, h3, h4, h5, hi0]
              simpa [letterAt, h1, h0, h3, h4, h5] using hg
          · by_cases h5 : c = 45
            · subst h5
              simp -implicitDefEqProofs [hlt, e2, hd, hi0]
              refine rnd_next (i + 1) ⟨by omega, ?_⟩ (by omega) (by simp -implicitDefEqProofs [liveOf])
              simpa [letterAt, h0] using hg
            · simp -implicitDefEqProofs [hlt, e2, hd, h1, h3, h5, hi0]
              simpa [letterAt, h1, h0, h3, h5] using hg
    · have hi' : i = s.size := by omega
      subst hi'
      have : (bytesI s).drop s.size = [] := List.drop_of_length_le (by simp)
      rw [this] at hg
      by_cases h0 : 0 < s.size
      · have h0' : (0 : Int) < s.size := by omega
        by_cases h1 : s.size ≤ 12
        · have h1' : (s.size : Int) ≤ 12 := by omega
          simp -implicitDefEqProofs [← hg, wordGo, h0, h1, h0', h1']
        · have h1' : ¬ (s.size : Int) ≤ 12 := by omega
          simp -implicitDefEqProofs [← hg, wordGo, h0, h1, h0', h1']
      · have h0' : ¬ (0 : Int) < s.size := by omega
        simp -implicitDefEqProofs [← hg, wordGo, h0, h0']
end Go.Ev.Tryd

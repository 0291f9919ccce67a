/-
  THE ASK SEAT: strings in quotation marks (own work).
-/
import Derived.Test.YtmcakfjbefelgaaDoorAkB
import Derived.Laws.RangeAny
import Derived.Laws.RangeString
set_option linter.unusedSimpArgs false
set_option linter.unusedVariables false
set_option maxRecDepth 100000
set_option maxHeartbeats 4000000
namespace Go.Ev.Tryd
open Go Go.Ev Go.Proofs

/-- A byte that can stand in quotation marks. -/
def goodQ (c : Int) : Bool := decide (32 ≤ c) && decide (c ≤ 126) && !decide (c = 34)
def allQ (s : ByteArray) : Bool := (bytesI s).all goodQ
def quoted (s : ByteArray) : Bool := decide (0 < s.size) && decide (s.size ≤ 40) && allQ s

/-! ### The reference's printable -/
theorem printable_ok (s : ByteArray) (hs : s.size ≤ 9223372036854775000) {k : Nat} (hk : s.size + 20 < k) : evF Tryd.prog Γ (k + 1) 55 [.str s, .int .u8 32, .bool true] [] = some (.bool (allQ s), []) := by
  have hl := bytesI_length s
  unfold allQ
  rw [b55 (fun _ _ => rfl) _ _ (by simp)]
  simp -implicitDefEqProofs [conv_bytes]
  generalize hA : (bytesI s).all goodQ = A
  generalize hx : evLoopC _ _ _ _ _ _ _ _ _ _ = R
  apply loop_gen hx (fun i : Nat => (mkL 31 .junk [(1, .int .u8 32), (2, .bool true), (10, .ros s.size (flatE (intE .u8) (bytesI s))), (11, .int .i64 s.size), (12, .int .i64 i)], [none]))
    (fun i => i ≤ s.size ∧ ((bytesI s).drop i).all goodQ = A) (fun i => s.size - i) 0
  case hI => exact ⟨by simp, hA⟩
  case hq => omega
  case ht => simp -implicitDefEqProofs [liveOf]
  case round =>
    rintro i ⟨hi, hg⟩ _
    clear hx hA
    by_cases hlt : i < s.size
    · have hlt2 : (i : Int) < s.size := by omega
      have e2 : addI .i64 (i : Int) 1 = (i : Int) + 1 := addI_i64 (by omega) (by omega)
      have hlt' : i < (bytesI s).length := by omega
      have mi := at_flatE1 (intE .u8) rfl (bytesI s) i hlt'
      rw [List.drop_eq_getElem_cons hlt', List.all_cons] at hg
      generalize (bytesI s)[i] = d at *
      by_cases a1 : d < 32
      · have hd : goodQ d = false := by unfold goodQ; have : ¬ 32 ≤ d := by omega
                                        simp [this]
        rw [hd] at hg
        simp -implicitDefEqProofs [hlt, hlt2, e2, mi, a1]
        simpa using hg
      · by_cases a2 : 126 < d
        · have hd : goodQ d = false := by unfold goodQ; have : ¬ d ≤ 126 := by omega
                                          simp [this]
          rw [hd] at hg
          simp -implicitDefEqProofs [hlt, hlt2, e2, mi, a1, a2]
          simpa using hg
        · by_cases a3 : d = 34
          · have hd : goodQ d = false := by unfold goodQ; simp [a3]
            rw [hd] at hg
            simp -implicitDefEqProofs [hlt, hlt2, e2, mi, a1, a2, a3]
            simpa using hg
          · have hd : goodQ d = true := by unfold goodQ; have : 32 ≤ d := by omega
                                           have : d ≤ 126 := by omega
                                           simp [*]
            rw [hd, Bool.true_and] at hg
            simp -implicitDefEqProofs [hlt, hlt2, e2, mi, a1, a2, a3]
            exact rnd_next (i + 1) ⟨by omega, hg⟩ (by omega) (by simp -implicitDefEqProofs [liveOf])
    · have hi' : i = s.size := by omega
      subst hi'
      have : (bytesI s).drop s.size = [] := List.drop_of_length_le (by simp)
      rw [this] at hg
      simp -implicitDefEqProofs [← hg]

/-! ### quoted -/
theorem rune_ok (c : Int) {k : Nat} : evF Tryd.prog Γ (k + 1) 84 [.int .i32 c] [] = some (.bool (decide (c < 32) || decide (126 < c) || decide (c = 34)), []) := by
  rw [b84 (fun _ _ => rfl) _ _ (by simp)]
  by_cases a1 : c < 32
  · simp -implicitDefEqProofs [a1]
  · by_cases a2 : 126 < c
    · simp -implicitDefEqProofs [a1, a2]
    · simp -implicitDefEqProofs [a1, a2]
theorem byte_at (s : ByteArray) (p : Nat) (h : p < s.size) : (bytesI s)[p]'(by simpa using h) = ((s[p]'h).toNat : Int) := by
  simp [bytesI]; rfl
theorem indexFunc_ok (s : ByteArray) {k : Nat} (hk : s.size + 20 < k) : ∃ z : Int, evF Tryd.prog Γ (k + 1) 106 [.str s, .fn (.func 84) [] [], .bool true] [] = some (.int .i64 z, []) ∧ (0 ≤ z ↔ allQ s = false) ∧ -1 ≤ z ∧ z ≤ s.size := by
  obtain ⟨k, rfl⟩ : ∃ j, k = j + 1 := ⟨k - 1, by omega⟩
  have c := fun x => rune_ok x (k := k)
  unfold allQ
  generalize hA : (bytesI s).all goodQ = A
  rw [b106 (fun _ _ => rfl) _ _ (by simp)]
  simp -implicitDefEqProofs
  generalize hx : evLoopC _ _ _ _ _ _ _ _ _ _ = R
  apply loop_gen hx (fun i : Nat => (mkL 21 .junk [(1, .fn (.func 84) [] []), (2, .bool true), (10, .ptr 0 0)], [some (.siter s i)]))
    (fun i => i ≤ s.size ∧ ((bytesI s).drop i).all goodQ = A) (fun i => s.size - i) 0
  case hI => exact ⟨by simp, hA⟩
  case hq => omega
  case ht => simp -implicitDefEqProofs [liveOf]
  case round =>
    rintro p ⟨hi, hg⟩ _
    clear hx hA
    by_cases hlt : p < s.size
    · have hlt' : p < (bytesI s).length := by simpa using hlt
      have hb := byte_at s p hlt
      rw [List.drop_eq_getElem_cons hlt', List.all_cons, hb] at hg
      by_cases ha : (s[p]'hlt).toNat < 128
      · have hd := decode_ascii s p hlt ha
        generalize (s[p]'hlt).toNat = d at *
        by_cases hq : (decide ((d : Int) < 32) || decide (126 < (d : Int)) || decide ((d : Int) = 34)) = true
        · have hgd : goodQ d = false := by
            unfold goodQ
            simp only [Bool.or_eq_true, decide_eq_true_eq] at hq
            rw [← Bool.not_eq_true]; simp; omega
          rw [hgd] at hg
          have c := c d
          rw [hq] at c
          simp -implicitDefEqProofs [nextV, hlt, hd, c]
          exact ⟨by simpa using hg, by omega⟩
        · have hgd : goodQ d = true := by
            unfold goodQ
            simp only [Bool.or_eq_true, decide_eq_true_eq] at hq
            simp; omega
          rw [hgd, Bool.true_and] at hg
          have c := c d
          rw [Bool.not_eq_true] at hq
          rw [hq] at c
          simp -implicitDefEqProofs [nextV, hlt, hd, c]
          exact rnd_next (p + 1) ⟨hlt, hg⟩ (by omega) (by simp -implicitDefEqProofs [liveOf])
      · obtain ⟨h1, h2⟩ := decode_high s p hlt (by omega)
        obtain ⟨r, w, hdd⟩ : ∃ r w, Utf8.decode s p = (r, w) := ⟨_, _, rfl⟩
        rw [hdd] at h1 h2
        simp only at h1 h2
        have hgd : goodQ (s[p]'hlt).toNat = false := by
          unfold goodQ
          rw [← Bool.not_eq_true]; simp; omega
        rw [hgd] at hg
        have c := c r
        have hq : (decide ((r : Int) < 32) || decide (126 < (r : Int)) || decide ((r : Int) = 34)) = true := by simp; omega
        rw [hq] at c
        simp -implicitDefEqProofs [nextV, hlt, hdd, c]
        exact ⟨by simpa using hg, by omega⟩
    · have hi' : p = s.size := by omega
      subst hi'
      have : (bytesI s).drop s.size = [] := List.drop_of_length_le (by simp)
      rw [this] at hg
      simp -implicitDefEqProofs [nextV]
      simpa using hg.symm
theorem quoted_ok (s : ByteArray) {k : Nat} (hk : 100 < k) : evF Tryd.prog Γ (k + 1) 71 [.str s] [] = some (.bool (quoted s), []) := by
  obtain ⟨k, rfl⟩ : ∃ j, k = j + 3 := ⟨k - 3, by omega⟩
  unfold quoted
  rw [b71 (fun _ _ => rfl) _ _ (by simp)]
  by_cases h0 : 0 < s.size
  · by_cases h1 : s.size ≤ 40
    · obtain ⟨z, c1, c2, c3, c4⟩ := indexFunc_ok s (k := k) (by omega)
      have c5 : evF Tryd.prog Γ (k + 2) 97 [.str s, .fn (.func 84) [] []] [] = some (.int .i64 z, []) := by
        rw [b97 (fun _ _ => rfl) _ _ (by simp)]
        simp -implicitDefEqProofs [c1]
      have c6 : evF Tryd.prog Γ (k + 3) 83 [.str s, .fn (.func 84) [] []] [] = some (.bool (decide (0 ≤ z)), []) := by
        rw [b83 (fun _ _ => rfl) _ _ (by simp)]
        simp -implicitDefEqProofs [c5]
      have g0 : (0 : Int) < s.size := by omega
      have g1 : (s.size : Int) ≤ 40 := by omega
      have hz : decide (0 ≤ z) = !allQ s := by
        cases hq : allQ s with
        | true => simp only [Bool.not_true, decide_eq_false_iff_not]; intro h; rw [c2, hq] at h; cases h
        | false => simp only [Bool.not_false, decide_eq_true_eq]; exact c2.2 hq
      rw [hz] at c6
      simp -implicitDefEqProofs [g0, g1, h0, h1, c6]
    · have g0 : (0 : Int) < s.size := by omega
      have g1 : ¬ (s.size : Int) ≤ 40 := by omega
      simp -implicitDefEqProofs [g0, g1, h0, h1]
  · have g0 : ¬ (0 : Int) < s.size := by omega
    simp -implicitDefEqProofs [g0, h0]
end Go.Ev.Tryd

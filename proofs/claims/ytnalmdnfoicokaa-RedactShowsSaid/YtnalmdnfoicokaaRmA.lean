/-
  THE REDACT SEAT: the reference's small functions (own work).
-/
import Derived.Test.YtnalmdnfoicokaaRdQ
import Derived.Test.YtnalmdnfoicokaaRmC0
set_option linter.unusedSimpArgs false
set_option linter.unusedVariables false
set_option maxRecDepth 100000
set_option maxHeartbeats 8000000
namespace Go.Ev.Try
open Go Go.Ev Go.Proofs

def insideB (s : Span) (n : Int) : Bool := decide (0 ≤ s.off ∧ 0 ≤ s.len ∧ s.len ≤ n ∧ s.off ≤ n - s.len ∧ s.off ≤ 65536 ∧ s.len ≤ 65536)
theorem inside_ok (s : Span) (n : Int) (h0 : 0 ≤ n) (hn : n ≤ 9223372036854775807) {k : Nat} : evF Try.prog Γ (k + 1) 14 [.agg [.int .i64 s.off, .int .i64 s.len], .int .i64 n] [] = some (.bool (insideB s n), []) := by
  obtain ⟨o, l⟩ := s
  rw [b14 (fun _ _ => rfl) _ _ (by simp)]
  unfold insideB
  by_cases h1 : 0 ≤ o
  · by_cases h2 : 0 ≤ l
    · by_cases h3 : l ≤ n
      · have e : subI .i64 n l = n - l := subI_i64 (by omega) (by omega)
        by_cases h4 : o ≤ n - l
        · by_cases h5 : o ≤ 65536
          · simp -implicitDefEqProofs [h1, h2, h3, h4, h5, e]
          · simp -implicitDefEqProofs [h1, h2, h3, h4, h5, e]
        · simp -implicitDefEqProofs [h1, h2, h3, h4, e]
      · simp -implicitDefEqProofs [h1, h2, h3]
    · simp -implicitDefEqProofs [h1, h2]
  · simp -implicitDefEqProofs [h1]
theorem inside_iff (s : Span) (n : Nat) (hn : n ≤ 65536) : insideB s n = true ↔ s.ok ∧ s.off + s.len ≤ n := by
  unfold insideB Span.ok
  rw [decide_eq_true_eq]
  omega

/-! ### cut -/
/-- Lists of bytes, read only. -/
def rosB : Enc (List Int) := ⟨fun l => [.ros l.length (flatE (intE .u8) l)], 1, fun _ => rfl, fun a v h => by simp at h; subst h; rfl⟩
@[simp] theorem rosB_k : rosB.k = 1 := rfl
theorem rosB_f (l : List Int) : rosB.f l = [.ros l.length (flatE (intE .u8) l)] := rfl
def cutL (bs : List Int) : List (List Int) := (List.range (blocksN bs.length)).map (blockL bs)
theorem cut_nil (z : Bool) {k : Nat} (hk : 5 < k) : evF Try.prog Γ (k + 1) 45 [roV z 0 (flatE (intE .u8) [])] [] = some (.sl 0 0 1 1, [some (.cells [roV z 0 []] false)]) := by
  rw [b45 (fun _ _ => rfl) _ _ (by simp)]
  simp -implicitDefEqProofs
  generalize hx : evLoopC _ _ _ _ _ _ _ _ _ _ = R
  apply loop_gen hx (fun i : Nat => (mkL 18 .junk [(0, roV z 0 []), (3, .nils)], [none, none])) (fun _ => True) (fun _ => 0) 0
  case hI => trivial
  case hq => omega
  case ht => simp -implicitDefEqProofs [liveOf, coldOf]
  case round =>
    rintro i _ _
    clear hx
    simp -implicitDefEqProofs
theorem cut_some (bs : List Int) (h1 : 1 ≤ bs.length) (hn : bs.length ≤ 65536) {k : Nat} (hk : 2000 < k) :
    evF Try.prog Γ (k + 1) 45 [.ros bs.length (flatE (intE .u8) bs)] [] = some (.sl 0 0 (blocksN bs.length) 1, [some (.cells (flatE rosB (cutL bs)) false)]) := by
  have hB : blocksN bs.length ≤ 1024 := by unfold blocksN; omega
  rw [b45 (fun _ _ => rfl) _ _ (by simp)]
  simp -implicitDefEqProofs
  generalize hx : evLoopC _ _ _ _ _ _ _ _ _ _ = R
  apply loop_gen hx (fun i : Nat => (mkL 18 .junk [(0, .ros (bs.length - i * 64) (flatE (intE .u8) (bs.drop (i * 64)))), (3, ownV true 1 0 i 1)], [none, ownB true i (flatE rosB ((cutL bs).take i))])) (fun i => i * 64 < bs.length) (fun i => blocksN bs.length - i) 0
  case hI => simp; omega
  case hq => omega
  case ht => simp -implicitDefEqProofs [liveOf, coldOf]
  case round =>
    rintro i hi _
    clear hx
    have hcl : (cutL bs).length = blocksN bs.length := by simp [cutL]
    have hiB : i < blocksN bs.length := by unfold blocksN; omega
    have hs : (cutL bs).take (i + 1) = (cutL bs).take i ++ [blockL bs i] := by rw [List.take_succ_eq_append_getElem (by omega)]; simp [cutL]
    have hti : ((cutL bs).take i).length = i := by rw [List.length_take]; omega
    by_cases hlt : i * 64 + 64 < bs.length
    · have hI1 : (i + 1) * 64 < bs.length := by omega
      have hM1 : blocksN bs.length - (i + 1) < blocksN bs.length - i := by omega
      have h2 : (64 : Int) < ((bs.length - i * 64 : Nat) : Int) := by omega
      have h3 : 64 < bs.length - i * 64 := by omega
      have h4 : 64 ≤ bs.length - i * 64 := by omega
      have hbl : (blockL bs i).length = 64 := by simp [blockL]; omega
      have w : List.take 64 (flatE (intE .u8) (bs.drop (i * 64))) = flatE (intE .u8) (blockL bs i) := by rw [take_flatE1 (intE .u8) rfl]; rfl
      have w2 : List.take (bs.length - i * 64 - 64) (List.drop 64 (flatE (intE .u8) (bs.drop (i * 64)))) = flatE (intE .u8) (bs.drop ((i + 1) * 64)) := by
        rw [drop_flatE1 (intE .u8) rfl, List.drop_drop, show i * 64 + 64 = (i + 1) * 64 by omega, List.take_of_length_le]
        simp; omega
      have e9 : bs.length - i * 64 - 64 = bs.length - (i + 1) * 64 := by omega
      rw [e9] at w2
      cases i with
      | zero =>
        simp at h2 h3 h4 w w2 e9
        simp -implicitDefEqProofs [h2, h3, h4, w, w2, e9]
        exact rnd_next (0 + 1) hI1 hM1 (by simp -implicitDefEqProofs [liveOf, coldOf, hs, rosB_f, hbl, w2])
      | succ i =>
        have hb : (i + 1 + 1) * 24 ≤ 140737488355328 := by omega
        simp -implicitDefEqProofs [h2, h3, h4, w, w2, hti, hb, e9]
        exact rnd_next (i + 1 + 1) hI1 hM1 (by simp -implicitDefEqProofs [liveOf, coldOf, hs, rosB_f, hbl])
    · have h2 : ¬ (64 : Int) < ((bs.length - i * 64 : Nat) : Int) := by omega
      have h3 : ¬ 64 < bs.length - i * 64 := by omega
      have hb1 : blocksN bs.length = i + 1 := by unfold blocksN; omega
      have hbl : (blockL bs i).length = bs.length - i * 64 := by simp [blockL]; omega
      have hbe : bs.drop (i * 64) = blockL bs i := by unfold blockL; rw [List.take_of_length_le]; simp; omega
      rw [List.take_of_length_le (by omega)] at hs
      rw [hs, hb1]
      cases i with
      | zero =>
        have h5 : ¬ (64 : Int) < bs.length := by omega
        simp at h3 hbe hbl
        simp -implicitDefEqProofs [h5, h3, rosB_f, ← hbe]
      | succ i =>
        have hb : (i + 1 + 1) * 24 ≤ 140737488355328 := by omega
        simp -implicitDefEqProofs [h2, h3, hti, hb, rosB_f, hbe, hbl]
end Go.Ev.Try

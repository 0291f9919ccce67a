/-
  THE LINE SEAT: SortFunc of at most 12 marks, Compact where nothing is twice (own work).
-/
import Derived.Test.YthmpoblblgohcaaLineB
set_option linter.unusedSimpArgs false
set_option linter.unusedVariables false
set_option maxRecDepth 100000
set_option maxHeartbeats 4000000
namespace Go.Ev.Try
open Go Go.Ev Go.Proofs

def isInt : Option (V × Heap) → Bool
  | some (.int .i64 _, []) => true
  | _ => false
theorem isInt_spec {r : Option (V × Heap)} (h : isInt r = true) : ∃ z, r = some (.int .i64 z, []) := by
  unfold isInt at h
  split at h
  · rename_i z; exact ⟨z, rfl⟩
  · cases h
theorem len_all : ((List.range 13).all fun n => isInt (evF Try.prog Γ 10 52 [.int .u64 (n : Nat)] [])) = true := by kernel_rfl
theorem len_ok (n : Nat) (hn : n < 13) : ∃ z, ∀ k, 10 ≤ k → evF Try.prog Γ k 52 [.int .u64 n] [] = some (.int .i64 z, []) := by
  have h := List.all_eq_true.1 len_all n (List.mem_range.2 hn)
  obtain ⟨z, hz⟩ := isInt_spec h
  exact ⟨z, fun k hk => evF_mono hk _ _ _ _ hz⟩

theorem sort51 (l : List Mark) (hn : l.length ≤ 12) (z : Int) {k : Nat} (hk : 2001 < k) :
    evF Try.prog Γ (k + 1) 51 [.sl 0 0 l.length 3, .int .i64 0, .int .i64 l.length, .int .i64 z, .fn (.func 25) [] []] [some (.cells (flatE markE l) false)] = some (.tup [], [some (.cells (flatE markE (isort l)) false)]) := by
  obtain ⟨k, rfl⟩ : ∃ j, k = j + 1 := ⟨k - 1, by omega⟩
  have c := sort58 l (by omega) (k := k) (by omega)
  have e1 : subI .i64 (l.length : Int) 0 = l.length := by rw [subI_i64 (by omega) (by omega)]; omega
  have e2 : (l.length : Int) ≤ 12 := by omega
  rw [b51 (fun _ _ => rfl) _ _ (by simp)]
  simp -implicitDefEqProofs
  generalize hx : evLoopC _ _ _ _ _ _ _ _ _ _ = R
  apply loop_gen hx (fun _ : Nat => (mkL 148 .junk [(0, .sl 0 0 l.length 3), (1, .int .i64 0), (2, .int .i64 l.length), (3, .int .i64 z), (4, .fn (.func 25) [] []), (10, .bool true), (11, .bool true)], [some (.cells (flatE markE l) false), none])) (fun _ => True) (fun _ => 0) 0
  case hI => trivial
  case hq => omega
  case ht => simp -implicitDefEqProofs [liveOf]
  case round =>
    rintro _ _ _
    simp -implicitDefEqProofs [e1, e2, c]

theorem sort33 (l : List Mark) (hn : l.length ≤ 12) {k : Nat} (hk : 2002 < k) :
    evF Try.prog Γ (k + 1) 33 [.sl 0 0 l.length 3, .fn (.func 25) [] []] [some (.cells (flatE markE l) false)] = some (.tup [], [some (.cells (flatE markE (isort l)) false)]) := by
  obtain ⟨k, rfl⟩ : ∃ j, k = j + 1 := ⟨k - 1, by omega⟩
  obtain ⟨z, hz⟩ := len_ok l.length (by omega)
  have c := sort51 l hn z (k := k) (by omega)
  have hz' := hz (k + 1) (by omega)
  have w : IntKind.u64.wrap (l.length : Int) = l.length := by rw [IntKind.wrap_u64]; omega
  rw [b33 (fun _ _ => rfl) _ _ (by simp)]
  simp -implicitDefEqProofs [hz', c, w, convertV]

theorem guard35 : Try.prog.eqGuardType Try.prog.depth 35 = false := by kernel_rfl
theorem stood35 : Try.prog.stoodInHeld 35 = false := by kernel_rfl
theorem eqI_int (k : IntKind) (a b : Int) : eqI (.int k a) (.int k b) = some (decide (a = b)) := by
  show (if k = k then some (a == b) else none) = _
  rw [if_pos rfl]; by_cases h : a = b <;> simp [h]
theorem eq_mark (a b : Mark) : evBin Try.prog .eql 35 (.agg [.int .i64 a.id, .int .i64 a.low, .int .i64 a.high]) (.agg [.int .i64 b.id, .int .i64 b.low, .int .i64 b.high]) = some (.bool (decide (a = b))) := by
  obtain ⟨a1, a2, a3⟩ := a
  obtain ⟨b1, b2, b3⟩ := b
  have key : eqV Try.prog 10000 35 (.agg [.int .i64 a1, .int .i64 a2, .int .i64 a3]) (.agg [.int .i64 b1, .int .i64 b2, .int .i64 b3]) = some (decide ((⟨a1, a2, a3⟩ : Mark) = ⟨b1, b2, b3⟩)) := by
    rw [show (10000 : Nat) = 9998 + 1 + 1 from rfl]
    by_cases h1 : a1 = b1 <;> by_cases h2 : a2 = b2 <;> by_cases h3 : a3 = b3 <;>
      simp [eqV, eqFields, aggOf, partV, stood35, eqI_int, h1, h2, h3]
  simp only [evBin, noNumV, aggOf, guard35, Option.isNone_some, Bool.false_or, Bool.not_false, Bool.and_self, if_true, key, Option.map_some]

/-- No two neighbours alike. -/
def Apart (l : List Mark) : Prop := ∀ (i : Nat) (h : i + 1 < l.length), l[i + 1] ≠ l[i]

theorem compact_ok (l : List Mark) (hA : Apart l) (hn : l.length ≤ 1000) {k : Nat} (hk : 1000 < k) :
    evF Try.prog Γ (k + 1) 34 [.sl 0 0 l.length 3] [some (.cells (flatE markE l) false)] = some (.sl 0 0 l.length 3, [some (.cells (flatE markE l) false), none]) := by
  rw [b34 (fun _ _ => rfl) _ _ (by simp)]
  by_cases h2 : (l.length : Int) < 2
  · simp -implicitDefEqProofs [h2]
  · simp -implicitDefEqProofs [h2]
    generalize hx : evLoopC _ _ _ _ _ _ _ _ _ _ = R
    apply loop_gen hx (fun i : Nat => (mkL 61 .junk [(0, .sl 0 0 l.length 3), (3, .int .i64 i)], [some (.cells (flatE markE l) false), none])) (fun i => 1 ≤ i ∧ i ≤ l.length) (fun i => l.length - i) 1
    case hI => omega
    case hq => omega
    case ht => simp -implicitDefEqProofs [liveOf]
    case round =>
      rintro i ⟨h1, hi⟩ _
      clear hx
      by_cases hlt : i < l.length
      · obtain ⟨p, rfl⟩ : ∃ p, i = p + 1 := ⟨i - 1, by omega⟩
        have e2 : addI .i64 ((p : Int) + 1) 1 = (p : Int) + 1 + 1 := addI_i64 (by omega) (by omega)
        have e3 : subI .i64 ((p : Int) + 1) 1 = (p : Int) := by rw [subI_i64 (by omega) (by omega)]; omega
        have hne := hA p hlt
        have my := at_marks l p (by omega)
        have mx := at_marks l (p + 1) hlt
        have b1 : (p : Int) + 1 < l.length := by omega
        have b2 : (p : Int) < l.length := by omega
        have b3 : 3 ≤ l.length * 3 - (p + 1) * 3 := by omega
        have b4 : 3 ≤ l.length * 3 - p * 3 := by omega
        have e5 : (0 : Int) ≤ (p : Int) + 1 := by omega
        simp -implicitDefEqProofs [e2, e3, e5, b1, b2, b3, b4, my, mx, eq_mark, hne]
        exact rnd_next (p + 1 + 1) ⟨by omega, by omega⟩ (by omega) (by simp -implicitDefEqProofs [liveOf])
      · have hi' : i = l.length := by omega
        subst hi'
        simp -implicitDefEqProofs
end Go.Ev.Try

/-
  THE LINE SEAT: small functions (own work).
-/
import Derived.Test.YthmpoblblgohcaaLineC0
import Derived.Laws.BitsLemmas
import Derived.Laws.Bits64
set_option linter.unusedSimpArgs false
set_option linter.unusedVariables false
set_option maxRecDepth 100000
namespace Go.Ev.Try
open Go Go.Ev Go.Proofs

theorem below_ok (x n : Int) (hn : 0 < n) (hm : n ≤ 4611686018427387904) {k : Nat} : evF Try.prog Γ (k + 1) 13 [.int .i64 x, .int .i64 n] [] = some (.int .i64 (x % n), []) := by
  have h0 : ¬ n = 0 := by omega
  have hlt : x.tmod n < n := Int.tmod_lt_of_pos x hn
  have hgt : -n < x.tmod n := Int.lt_tmod_of_pos x hn
  have e := @Int.emod_eq_tmod x n
  have p0 := Int.emod_nonneg x h0
  have p1 := Int.emod_lt_of_pos x hn
  rw [b13 (fun _ _ => rfl) _ _ (by simp)]
  by_cases hx : x.tmod n < 0
  · have he : addI .i64 (x.tmod n) n = x % n := by
      rw [addI_i64 (by omega) (by omega)]
      split at e <;> omega
    simp -implicitDefEqProofs [hx, h0, he]
  · have he : x.tmod n = x % n := by
      split at e <;> omega
    have hx' : ¬ x % n < 0 := by omega
    simp -implicitDefEqProofs [hx', h0, he]

/-- The number and what is left. -/
def nextN (l : List Int) (n : Int) : Int := match l with | [] => 0 | x :: _ => x % n
@[simp] theorem nextN_nil (n : Int) : nextN [] n = 0 := rfl
@[simp] theorem nextN_cons (x : Int) (l : List Int) (n : Int) : nextN (x :: l) n = x % n := rfl

theorem next_ok (l : List Int) (z : Bool) (n : Int) (hn : 0 < n) (hm : n ≤ 4611686018427387904) {k : Nat} :
    evF Try.prog Γ (k + 2) 28 [.ptr 0 0, .int .i64 n] [some (.cells [roV z l.length (flatE (intE .i64) l)] true)] = some (.int .i64 (nextN l n), [some (.cells [roV (z && l.isEmpty) l.tail.length (flatE (intE .i64) l.tail)] true), none]) := by
  have hk := fun x => below_ok x n hn hm (k := k)
  have h1 : ¬ (n < 1) := by omega
  cases l with
  | nil =>
    rw [b28 (fun _ _ => rfl) _ _ (by simp)]
    cases z <;> simp -implicitDefEqProofs [roV]
  | cons x l =>
    have h0 : ¬ ((l.length : Int) + 1 = 0) := by omega
    have h2 : (0 : Int) < l.length + 1 := by omega
    rw [b28 (fun _ _ => rfl) _ _ (by simp)]
    simp -implicitDefEqProofs [h0, h1, h2, hk]
/-! ### cmp.Compare, cmp.Or, Cmp -/
section
variable {o : Nat → List V → Heap → Option (V × Heap)} (ho : ∀ f a H, f ∉ [33, 43, 53] → o f a H = none)
attribute [local simp] Γo_plain Γo_live Γo_cold Γo_keep
include ho
theorem nan_ok0 (a : Int) {k : Nat} : evF Try.prog (Γo o) (k + 1) 55 [.int .i64 a] [] = some (.bool false, []) := by
  rw [b55 (fun _ _ => ho _ _ _ (by decide)) _ _ (by simp)]
  simp -implicitDefEqProofs
theorem cmp_ok0 (a b : Int) {k : Nat} : evF Try.prog (Γo o) (k + 2) 45 [.int .i64 a, .int .i64 b] [] = some (.int .i64 (cmpI a b), []) := by
  have c1 := nan_ok0 ho a (k := k)
  have c2 := nan_ok0 ho b (k := k)
  rw [b45 (fun _ _ => ho _ _ _ (by decide)) _ _ (by simp)]
  by_cases h1 : a < b
  · simp -implicitDefEqProofs [c1, c2, h1, cmpI]
  · by_cases h2 : b < a
    · simp -implicitDefEqProofs [c1, c2, h1, h2, cmpI]
    · simp -implicitDefEqProofs [c1, c2, h1, h2, cmpI]
theorem or_ok0 (l : List Int) (hl : l.length ≤ 100) {k : Nat} (hk : 100 < k) : evF Try.prog (Γo o) (k + 1) 44 [.ros l.length (flatE (intE .i64) l)] [] = some (.int .i64 (orI3 l), []) := by
  rw [b44 (fun _ _ => ho _ _ _ (by decide)) _ _ (by simp)]
  simp -implicitDefEqProofs
  generalize hx : evLoopC _ _ _ _ _ _ _ _ _ _ = R
  apply loop_gen hx (fun i : Nat => (mkL 18 .junk [(3, .int .i64 0), (6, .ros l.length (flatE (intE .i64) l)), (7, .int .i64 l.length), (8, .int .i64 i)], [none]))
    (fun i => i ≤ l.length ∧ orI3 (l.drop i) = orI3 l) (fun i => l.length - i) 0
  case hI => exact ⟨by simp, rfl⟩
  case hq => omega
  case ht => simp -implicitDefEqProofs [liveOf]
  case round =>
    rintro i ⟨hi, hA⟩ _
    clear hx
    by_cases hlt : i < l.length
    · have e2 : addI .i64 (i : Int) 1 = (i : Int) + 1 := addI_i64 (by omega) (by omega)
      rw [List.drop_eq_getElem_cons hlt] at hA
      simp only [orI3] at hA
      by_cases h0 : l[i] = 0
      · rw [if_pos h0] at hA
        simp -implicitDefEqProofs [hlt, e2, h0]
        exact rnd_next (i + 1) ⟨hlt, hA⟩ (by omega) (by simp -implicitDefEqProofs [liveOf])
      · rw [if_neg h0] at hA
        simp -implicitDefEqProofs [hlt, e2, h0, ← hA]
    · have hi' : i = l.length := by omega
      subst hi'
      rw [List.drop_length] at hA
      simp -implicitDefEqProofs [← hA, orI3]
theorem cmpM_ok0 (a b : Mark) {k : Nat} (hk : 102 < k) : evF Try.prog (Γo o) (k + 1) 25 [.agg (markE.f a), .agg (markE.f b)] [] = some (.int .i64 (cmpM a b), []) := by
  obtain ⟨k, rfl⟩ : ∃ j, k = j + 2 := ⟨k - 2, by omega⟩
  have c := fun a b => cmp_ok0 ho a b (k := k)
  have c2 := or_ok0 ho [cmpI a.low b.low, cmpI a.high b.high, cmpI a.id b.id] (by simp) (k := k + 1) (by omega)
  rw [b25 (fun _ _ => ho _ _ _ (by decide)) _ _ (by simp)]
  simp at c2
  simp -implicitDefEqProofs [c, c2, markE_f, cmpM]
end
theorem lineOrc_none (f : Nat) (a : List V) (H : Heap) (h : f ∉ [33, 43, 53]) : lineOrc f a H = none := by
  simp only [List.mem_cons, List.not_mem_nil, or_false, not_or] at h
  unfold lineOrc baseOrc
  rw [if_neg h.1, if_neg h.2.1, if_neg h.2.2]
theorem cmp_ok (a b : Int) {k : Nat} : evF Try.prog Γ (k + 2) 45 [.int .i64 a, .int .i64 b] [] = some (.int .i64 (cmpI a b), []) := cmp_ok0 lineOrc_none a b
theorem cmpM_ok (a b : Mark) {k : Nat} (hk : 102 < k) : evF Try.prog Γ (k + 1) 25 [.agg (markE.f a), .agg (markE.f b)] [] = some (.int .i64 (cmpM a b), []) := cmpM_ok0 lineOrc_none a b hk
end Go.Ev.Try

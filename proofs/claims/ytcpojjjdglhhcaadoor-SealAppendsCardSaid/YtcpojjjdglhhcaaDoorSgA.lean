/-
  THE SEAL SEAT: small functions (own work).
-/
import Derived.Test.YtcpojjjdglhhcaaDoorSgC0
import Derived.Laws.BitsLemmas
import Derived.Laws.Bits64
set_option linter.unusedSimpArgs false
set_option linter.unusedVariables false
set_option maxRecDepth 10000
namespace Go.Ev.Tryd
open Go Go.Ev Go.Proofs

theorem wrap_i64 {z : Int} (h1 : -9223372036854775808 ≤ z) (h2 : z ≤ 9223372036854775807) : IntKind.i64.wrap z = z := by
  rw [IntKind.wrap_i64]; omega
theorem wrap_u64_lt (z : Int) : 0 ≤ IntKind.u64.wrap z ∧ IntKind.u64.wrap z < 18446744073709551616 := by
  rw [IntKind.wrap_u64]; omega
theorem addI_i64 {a b : Int} (h1 : -9223372036854775808 ≤ a + b) (h2 : a + b ≤ 9223372036854775807) : addI .i64 a b = a + b := by
  rw [addI_eq]; exact wrap_i64 h1 h2
theorem subI_i64 {a b : Int} (h1 : -9223372036854775808 ≤ a - b) (h2 : a - b ≤ 9223372036854775807) : subI .i64 a b = a - b := by
  rw [subI_eq]; exact wrap_i64 h1 h2
theorem xorI_u64 (a b : Int) : 0 ≤ xorI .u64 a b ∧ xorI .u64 a b < 18446744073709551616 := by
  rw [xorI_eq]; exact wrap_u64_lt _

theorem below_ok (x n : Int) (hn : 0 < n) (hm : n ≤ 4611686018427387904) {k : Nat} : evF Tryd.prog Γ (k + 1) 11 [.int .i64 x, .int .i64 n] [] = some (.int .i64 (x % n), []) := by
  have h0 : ¬ n = 0 := by omega
  have hlt : x.tmod n < n := Int.tmod_lt_of_pos x hn
  have hgt : -n < x.tmod n := Int.lt_tmod_of_pos x hn
  have e := @Int.emod_eq_tmod x n
  have p0 := Int.emod_nonneg x h0
  have p1 := Int.emod_lt_of_pos x hn
  rw [b11 (fun _ _ => rfl) _ _ (by simp)]
  by_cases hx : x.tmod n < 0
  · have he : addI .i64 (x.tmod n) n = x % n := by
      rw [addI_i64 (by omega) (by omega)]
      split at e <;> omega
    simp -implicitDefEqProofs [hx, h0, he]
  · have he : x.tmod n = x % n := by
      split at e <;> omega
    have hx' : ¬ x % n < 0 := by omega
    simp -implicitDefEqProofs [hx', h0, he]

/-- The number and what is left. -/
def nextN (l : List Int) (n : Int) : Int := match l with | [] => 0 | x :: _ => x % n
@[simp] theorem nextN_nil (n : Int) : nextN [] n = 0 := rfl
@[simp] theorem nextN_cons (x : Int) (l : List Int) (n : Int) : nextN (x :: l) n = x % n := rfl

theorem next_ok (l : List Int) (z : Bool) (n : Int) (hn : 0 < n) (hm : n ≤ 4611686018427387904) {k : Nat} :
    evF Tryd.prog Γ (k + 2) 22 [.ptr 0 0, .int .i64 n] [some (.cells [roV z l.length (flatE (intE .i64) l)] true)] = some (.int .i64 (nextN l n), [some (.cells [roV (z && l.isEmpty) l.tail.length (flatE (intE .i64) l.tail)] true), none]) := by
  have hk := fun x => below_ok x n hn hm (k := k)
  have h1 : ¬ (n < 1) := by omega
  cases l with
  | nil =>
    rw [b22 (fun _ _ => rfl) _ _ (by simp)]
    cases z <;> simp -implicitDefEqProofs [roV]
  | cons x l =>
    have h0 : ¬ ((l.length : Int) + 1 = 0) := by omega
    have h2 : (0 : Int) < l.length + 1 := by omega
    rw [b22 (fun _ _ => rfl) _ _ (by simp)]
    simp -implicitDefEqProofs [h0, h1, h2, hk]
theorem nextN_lt (l : List Int) (n : Int) (hn : 0 < n) : 0 ≤ nextN l n ∧ nextN l n < n := by
  cases l with
  | nil => simp; exact hn
  | cons x l => exact ⟨Int.emod_nonneg _ (by omega), Int.emod_lt_of_pos _ hn⟩

/-! ### sum.Hash -/
noncomputable def hashH (h b : Int) : Int := xorI .u64 (mulI .u64 (xorI .u64 h (IntKind.u64.wrap b)) 1099511628211) (shrI .u64 (mulI .u64 (xorI .u64 h (IntKind.u64.wrap b)) 1099511628211) 29)
noncomputable def hashGo (h : Int) (l : List Int) : Int := l.foldl hashH h
noncomputable def hash (l : List Int) : Int := hashGo 11400714819323198485 l
theorem hashGo_lt (l : List Int) (h : Int) (hh : 0 ≤ h ∧ h < 18446744073709551616) : 0 ≤ hashGo h l ∧ hashGo h l < 18446744073709551616 := by
  induction l generalizing h with
  | nil => exact hh
  | cons b l ih => exact ih _ (xorI_u64 _ _)
theorem hash_lt (l : List Int) : 0 ≤ hash l ∧ hash l < 18446744073709551616 := hashGo_lt l _ (by omega)

theorem hash_ok (bs : List Int) (z : Bool) (hlen : bs.length < 9223372036854775807) {k : Nat} (hk : bs.length < k) :
    evF Tryd.prog Γ (k + 1) 28 [roV z bs.length (flatE (intE .u8) bs)] [] = some (.int .u64 (hash bs), []) := by
  rw [b28 (fun _ _ => rfl) _ _ (by simp)]
  simp -implicitDefEqProofs
  generalize hx : evLoopC _ _ _ _ _ _ _ _ _ _ = R
  apply loop_gen hx (fun a : Nat × Int => (mkL 23 .junk [(3, .int .u64 a.2), (6, roV z bs.length (flatE (intE .u8) bs)), (7, .int .i64 bs.length), (8, .int .i64 a.1)], [none]))
    (fun a => a.1 ≤ bs.length ∧ hashGo a.2 (bs.drop a.1) = hash bs) (fun a => bs.length - a.1) (0, 11400714819323198485)
  case hI => exact ⟨by simp, rfl⟩
  case hq => simpa using hk
  case ht => simp -implicitDefEqProofs [liveOf]
  case round =>
    rintro ⟨i, h⟩ ⟨hi, hg⟩ _
    by_cases hlt : i < bs.length
    · have e2 : addI .i64 (i : Int) 1 = (i : Int) + 1 := addI_i64 (by simp only at hi; omega) (by omega)
      simp -implicitDefEqProofs [hlt, e2, convertV]
      refine rnd_next (i + 1, hashH h bs[i]) ⟨hlt, ?_⟩ (by simp only; omega) ?_
      · rw [← hg]
        simp only [hashGo]
        rw [List.drop_eq_getElem_cons hlt]
        rfl
      · simp -implicitDefEqProofs [liveOf, hashH]
    · have hi' : i = bs.length := by simp only at hi; omega
      subst hi'
      simp [hashGo] at hg
      simp -implicitDefEqProofs [hg]
end Go.Ev.Tryd

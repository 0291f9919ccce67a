/-
  THE CLOCK DOOR SEAT: Below, Stream.Next, Itoa of small numbers (own work).
-/
import Derived.Test.YtflmadkbppnmcaaDoorDkC6
import Derived.Test.YtflmadkbppnmcaaDoorDkP
import Derived.KernelRfl
set_option linter.unusedSimpArgs false
set_option linter.unusedVariables false
set_option maxRecDepth 100000
namespace Go.Ev.Tryd
open Go Go.Ev Go.Proofs

theorem below_ok (x n : Int) (hn : 0 < n) (hm : n ≤ 4611686018427387904) {k : Nat} : evF Tryd.prog Γ (k + 1) 10 [.int .i64 x, .int .i64 n] [] = some (.int .i64 (x % n), []) := by
  have h0 : ¬ n = 0 := by omega
  have hlt : x.tmod n < n := Int.tmod_lt_of_pos x hn
  have hgt : -n < x.tmod n := Int.lt_tmod_of_pos x hn
  have e := @Int.emod_eq_tmod x n
  have p0 := Int.emod_nonneg x h0
  have p1 := Int.emod_lt_of_pos x hn
  rw [b10 (fun _ _ => rfl) _ _ (by simp)]
  by_cases hx : x.tmod n < 0
  · have he : addI .i64 (x.tmod n) n = x % n := by
      rw [addI_i64 (by omega) (by omega)]
      split at e <;> omega
    simp -implicitDefEqProofs [hx, h0, he]
  · have he : x.tmod n = x % n := by
      split at e <;> omega
    have hx' : ¬ x % n < 0 := by omega
    simp -implicitDefEqProofs [hx', h0, he]

/-- The number and what is left. -/
def nextN (l : List Int) (n : Int) : Int := match l with | [] => 0 | x :: _ => x % n
@[simp] theorem nextN_nil (n : Int) : nextN [] n = 0 := rfl
@[simp] theorem nextN_cons (x : Int) (l : List Int) (n : Int) : nextN (x :: l) n = x % n := rfl

theorem next_ok (l : List Int) (z : Bool) (n : Int) (hn : 0 < n) (hm : n ≤ 4611686018427387904) {k : Nat} :
    evF Tryd.prog Γ (k + 2) 21 [.ptr 0 0, .int .i64 n] [some (.cells [roV z l.length (flatE (intE .i64) l)] true)] = some (.int .i64 (nextN l n), [some (.cells [roV (z && l.isEmpty) l.tail.length (flatE (intE .i64) l.tail)] true), none]) := by
  have hk := fun x => below_ok x n hn hm (k := k)
  have h1 : ¬ (n < 1) := by omega
  cases l with
  | nil =>
    rw [b21 (fun _ _ => rfl) _ _ (by simp)]
    cases z <;> simp -implicitDefEqProofs [roV]
  | cons x l =>
    have h0 : ¬ ((l.length : Int) + 1 = 0) := by omega
    have h2 : (0 : Int) < l.length + 1 := by omega
    rw [b21 (fun _ _ => rfl) _ _ (by simp)]
    simp -implicitDefEqProofs [h0, h1, h2, hk]
theorem nextN_lt (l : List Int) (n : Int) (hn : 0 < n) : 0 ≤ nextN l n ∧ nextN l n < n := by
  cases l with
  | nil => simp; exact hn
  | cons x l => exact ⟨Int.emod_nonneg _ (by omega), Int.emod_lt_of_pos _ hn⟩

/-! ### Itoa of 0 to 3 -/
def digit (q : Int) : ByteArray := ⟨#[UInt8.ofNat (48 + q.toNat)]⟩
theorem itoa0 : evF Tryd.prog Γ 40 22 [.int .i64 0] [] = some (.str (digit 0), []) := by kernel_rfl
theorem itoa1 : evF Tryd.prog Γ 40 22 [.int .i64 1] [] = some (.str (digit 1), []) := by kernel_rfl
theorem itoa2 : evF Tryd.prog Γ 40 22 [.int .i64 2] [] = some (.str (digit 2), []) := by kernel_rfl
theorem itoa3 : evF Tryd.prog Γ 40 22 [.int .i64 3] [] = some (.str (digit 3), []) := by kernel_rfl
theorem itoa_ok {q : Int} (h0 : 0 ≤ q) (h1 : q < 4) {k : Nat} (hk : 40 ≤ k) : evF Tryd.prog Γ k 22 [.int .i64 q] [] = some (.str (digit q), []) := by
  have : q = 0 ∨ q = 1 ∨ q = 2 ∨ q = 3 := by omega
  rcases this with rfl | rfl | rfl | rfl
  · exact evF_mono hk _ _ _ _ itoa0
  · exact evF_mono hk _ _ _ _ itoa1
  · exact evF_mono hk _ _ _ _ itoa2
  · exact evF_mono hk _ _ _ _ itoa3
end Go.Ev.Tryd

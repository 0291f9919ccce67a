/-
  THE SEAL SEAT: SealChecks answers true, for all lists of entries (own work).
-/
import Derived.Test.YtcpojjjdglhhcaaDoorSgR
import Derived.Test.YtcpojjjdglhhcaaDoorSgH
set_option linter.unusedSimpArgs false
set_option linter.unusedVariables false
set_option maxRecDepth 100000
set_option maxHeartbeats 4000000
namespace Go.Ev.Tryd
open Go Go.Ev Go.Proofs

def kim : ByteArray := ⟨#[107, 105, 109]⟩
def e0 : Entry := ⟨0, kim, ByteArray.empty, 3, 7, 0⟩
noncomputable def e1 : Entry := ⟨0, kim, ByteArray.empty, 3, 7, sumS 0 e0⟩
theorem hash_u64 (before : Int) (x : Entry) : u64 (sumS before x) := hash_lt _
theorem ok_e0 : okE e0 := ⟨by decide, by decide, ⟨by decide, by decide⟩, ⟨by decide, by decide⟩, by decide, by decide⟩
theorem ok_e1 : okE e1 := ⟨by show i64 0; decide, by show i64 3; decide, ⟨by show (0 : Int) ≤ 7; decide, by show (7 : Int) < _; decide⟩, hash_u64 _ _, by show kim.size ≤ _; decide, by show ByteArray.empty.size ≤ _; decide⟩
theorem step_e0 : step state0 true e0 = (⟨kim, false, 7, 3⟩, 0) := by
  have h1 : named kim = true := by decide
  simp [step, e0, h1, state0]
theorem check_nil : check [] = (state0, 0, 0) := by simp [check, checkGo]
theorem step_e1 : step state0 true e1 = (⟨kim, false, 7, 3⟩, 0) := by
  have h1 : named kim = true := by decide
  simp [step, e1, h1, state0]
theorem check_e1 : check [e1] = (⟨kim, false, 7, 3⟩, 1, 0) := by
  have h : e1.sum = sumS 0 e1 := rfl
  have hs := step_e1
  simp [check, checkGo, hs, h]

theorem sealed_ok {k : Nat} (hk : 1000 ≤ k) : evF Tryd.prog Γ (k + 1) 15 [] [] = some (.bool true, []) := by
  obtain ⟨k, rfl⟩ : ∃ j, k = j + 1 := ⟨k - 1, by omega⟩
  have z0 : szE e0 = 3 := rfl
  have z1 : szL [e1] = 3 := rfl
  have c1 := append_ok [] e0 (by intro x hx; cases hx) ok_e0 (by rw [check_nil]) (by simp) (k := k) (by simp [szL, z0]; omega)
  have c2 := check_ok [e1] false (by intro x hx; rw [List.mem_singleton.1 hx]; exact ok_e1) (k := k) (by omega)
  rw [check_nil] at c1
  have hE : ([] : List Entry).isEmpty = true := rfl
  have hs := step_e0
  simp only [hE, hs, if_true] at c1
  rw [check_e1] at c2
  have hl : lastSum [] = 0 := rfl
  rw [hl, show ({ e0 with sum := sumS 0 e0 } : Entry) = e1 from rfl] at c1
  rw [b15 (fun _ _ => rfl) _ _ (by simp)]
  simp [entryE_f, e0, kim] at c1
  simp [stateE_f, entryE_f, kim] at c2
  simp -implicitDefEqProofs [c1, c2, kim]

theorem guard27 : Tryd.prog.eqGuardType Tryd.prog.depth 27 = false := by kernel_rfl
theorem stood27 : Tryd.prog.stoodInHeld 27 = false := by kernel_rfl
theorem eqI_same (k : IntKind) (a : Int) : eqI (.int k a) (.int k a) = some true := by
  show (if k = k then some (a == a) else none) = _
  rw [if_pos rfl]; simp
theorem eqS_same (a : ByteArray) : eqS (.str a) (.str a) = some true := by
  show some (a == a) = _
  have h : (a == a) = true := by
    obtain ⟨x⟩ := a
    show (x == x) = true
    simp
  rw [h]
theorem eqB_same (a : Bool) : eqB (.bool a) (.bool a) = some true := by simp [eqB]
theorem eqv_state (a : ByteArray) (b : Bool) (c d : Int) : eqV Tryd.prog 10000 27 (.agg [.str a, .bool b, .int .u64 c, .int .i64 d]) (.agg [.str a, .bool b, .int .u64 c, .int .i64 d]) = some true := by
  rw [show (10000 : Nat) = 9998 + 1 + 1 from rfl]
  simp [eqV, eqFields, aggOf, partV, stood27, eqI_same, eqS_same, eqB_same]
theorem eq_state (a : ByteArray) (b : Bool) (c d : Int) : evBin Tryd.prog .eql 27 (.agg [.str a, .bool b, .int .u64 c, .int .i64 d]) (.agg [.str a, .bool b, .int .u64 c, .int .i64 d]) = some (.bool true) := by
  simp only [evBin, noNumV, aggOf, guard27, Option.isNone_some, Bool.false_or, Bool.not_false, Bool.and_self, if_true, eqv_state, Option.map_some]

theorem law5_ok (l : List Entry) (z : Bool) (hl : okL l) (before : Int) (hb : u64 before) (x : Entry) (hx : okE x) {k : Nat} (hk : 1100 + szL l + szE x ≤ k) :
    evF Tryd.prog Γ (k + 1) 5 [roV z l.length (flatE entryE l), .int .u64 before, .agg (entryE.f x)] [] = some (.bool true, []) := by
  obtain ⟨k, rfl⟩ : ∃ j, k = j + 1 := ⟨k - 1, by omega⟩
  have c1 := check_ok l z hl (k := k) (by omega)
  have c2 := chain_ok l z hl (k := k) (by omega)
  have c3 := sealed_ok (k := k) (by omega)
  have c4 := sum_ok before hb x hx (k := k) (by omega)
  have c5 := summed_ok before hb x hx (k := k) (by omega)
  rw [b5 (fun _ _ => rfl) _ _ (by simp)]
  generalize check l = T at *
  obtain ⟨s, n, e⟩ := T
  simp only [stateE_f, entryE_f] at c1 c2 c4 c5
  simp -implicitDefEqProofs [c1, c2, c3, c4, c5, stateE_f, entryE_f, eq_state]
end Go.Ev.Tryd

/-
  THE CLOCK SEAT: the fact 'timed' (own work).
-/
import Derived.Test.YtflmadkbppnmcaaCkH
import Derived.Test.YtflmadkbppnmcaaCkC2
import Derived.KernelRfl
set_option linter.unusedSimpArgs false
set_option linter.unusedVariables false
set_option maxRecDepth 100000
set_option maxHeartbeats 8000000
namespace Go.Ev.Try
open Go Go.Ev Go.Proofs
section
variable {P : Program} {Γ : Env} {call : CallF} {n f m : Nat}
/-- Loops unrolled where all is known. -/
def loopNext (P : Program) (Γ : Env) (call : CallF) (n f m : Nat) (c : Code) (q : Nat) (r : Option (Ex × List V × Heap)) : Option (Ex × List V × Heap) :=
  match r with
  | some (.normal, s, H) => evLoopC P Γ call n f m c q s H
  | r => r
theorem loop_step (c : Code) (q : Nat) (s : List V) (H : Heap) : evLoopC P Γ call n f m c (q + 1) s H = loopNext P Γ call n f m c q (evCode P Γ call n f m c (tidy Γ f m (firstRegion c) s H).1 (tidy Γ f m (firstRegion c) s H).2) := by
  unfold evLoopC loopNext
  simp only [evLoop]
  split <;> (try simp_all) <;> rfl
theorem loopNext_normal (c : Code) (q : Nat) (s : List V) (H : Heap) : loopNext P Γ call n f m c q (some (.normal, s, H)) = evLoopC P Γ call n f m c q s H := rfl
theorem loopNext_exit (c : Code) (q id : Nat) (s : List V) (H : Heap) : loopNext P Γ call n f m c q (some (.exit id, s, H)) = some (.exit id, s, H) := rfl
end
def row3 (l : List Int) : Option Blk := some (.cells (l.map (V.int .i64)) true)
def out3 : Option Blk := some (.cells [.sl 1 0 3 1, .sl 2 0 3 1, .sl 3 0 3 1] true)
def ev1 : List V := [.str ⟨#[97]⟩, .int .i64 5, .int .i64 0]
def ti1 : List V := [.int .i64 (-1), .int .i64 0, .int .i64 10, .int .i64 12]
theorem addC (a b : Int) (h : -9223372036854775808 ≤ a + b ∧ a + b ≤ 9223372036854775807) : addI .i64 a b = a + b := addI_i64 h.1 h.2
theorem build3 : evF Try.prog Γ 40 53 [.ros 1 ev1, .ros 1 ti1] [] = some (.sl 0 0 3 1, [out3, row3 [0, 4294967295, 12], row3 [4294967295, 0, 5], row3 [-10, -5, 0]]) := by kernel_rfl
theorem check3 : evF Try.prog Γ 40 12 [.ros 1 ev1, .ros 1 ti1] [] = some (.int .i64 0, []) := by kernel_rfl
theorem clocks3 : evF Try.prog Γ 40 10 [.ros 1 ev1] [] = some (.sl 0 0 1 1, [some (.cells [.str ⟨#[97]⟩] false)]) := by kernel_rfl
theorem intervals3 : evF Try.prog Γ 40 39 [.ros 3 [.ros 3 [.int .i64 0, .int .i64 7, .int .i64 12], .ros 3 [.int .i64 (-5), .int .i64 0, .int .i64 5], .ros 3 [.int .i64 (-10), .int .i64 (-5), .int .i64 0]], .int .i64 2, .int .i64 1] [] = some (.sl 0 0 1 2, [some (.cells [.int .i64 10, .int .i64 12] false)]) := by kernel_rfl
theorem close3 {k : Nat} : evF Try.prog Γ (k + 19 + 1) 54 [.sl 0 0 3 1] [out3, row3 [0, 4294967295, 12], row3 [4294967295, 0, 5], row3 [-10, -5, 0]] = some (.bool true, [out3, row3 [0, 7, 12], row3 [-5, 0, 5], row3 [-10, -5, 0], none, none, none]) := by
  rw [b54 (fun _ _ => rfl) _ _ (by simp)]
  simp (maxSteps := 50000000) -implicitDefEqProofs [out3, row3, loop_step, loopNext_normal, loopNext_exit, liveOf, addC]
end Go.Ev.Try

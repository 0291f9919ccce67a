/-
  THE CLOCK SEAT: the reference's Bounds, its parts (own work).
-/
import Derived.Test.YtflmadkbppnmcaaCkC3
import Derived.Test.YtflmadkbppnmcaaCkY
set_option linter.unusedSimpArgs false
set_option linter.unusedVariables false
set_option maxRecDepth 100000
set_option maxHeartbeats 4000000
namespace Go.Ev.Try
open Go Go.Ev Go.Proofs

def bE : Enc Bd := ⟨fun b => [.int .i64 b.f, .int .i64 b.t, .int .i64 b.n], 3, fun _ => rfl, fun a v h => by simp at h; rcases h with h | h | h <;> subst h <;> rfl⟩
instance : bE.Own := ⟨fun _ => rfl, fun _ => rfl⟩
@[simp] theorem bE_k : bE.k = 3 := rfl
theorem bE_f (b : Bd) : bE.f b = [.int .i64 b.f, .int .i64 b.t, .int .i64 b.n] := rfl

theorem add_nil (i j : Nat) (lo up : Int) (hlo : -9223372036854775807 ≤ lo ∧ lo ≤ 9223372036854775807) {k : Nat} :
    evF Try.prog Γ (k + 1) 42 [.int .i64 i, .int .i64 j, .int .i64 lo, .int .i64 up, .ptr 0 0] [some (.cells [.nils] true)] = some (V.undef, [some (.cells [.sl 1 0 2 3] true), some (.cells (flatE bE (pair i j lo up)) false)]) := by
  have hw : IntKind.i64.wrap (-lo) = -lo := wrap_i64 (by omega) (by omega)
  rw [b42 (fun _ _ => rfl) _ _ (by simp)]
  simp -implicitDefEqProofs [hw, pair, bE_f]
theorem add_ok (L : List Bd) (n : Nat) (hL : L.length = n + 1) (hn : n ≤ 100000) (i j : Nat) (lo up : Int) (hlo : -9223372036854775807 ≤ lo ∧ lo ≤ 9223372036854775807) {k : Nat} :
    evF Try.prog Γ (k + 1) 42 [.int .i64 i, .int .i64 j, .int .i64 lo, .int .i64 up, .ptr 0 0] [some (.cells [.sl 1 0 (n + 1) 3] true), some (.cells (flatE bE L) false)] = some (V.undef, [some (.cells [.sl 2 0 (n + 3) 3] true), none, some (.cells (flatE bE (L ++ pair i j lo up)) false)]) := by
  have hw : IntKind.i64.wrap (-lo) = -lo := wrap_i64 (by omega) (by omega)
  have h9 : (n + 1 + 2) * 24 ≤ 140737488355328 := by omega
  rw [b42 (fun _ _ => rfl) _ _ (by simp)]
  simp -implicitDefEqProofs [hw, pair, bE_f, hL, h9]
theorem at_ok2 (c : Nat) (L : List V) (a : Int) (ha : -1 ≤ a ∧ a ≤ 1000) (hc : c ≤ 1000) {k : Nat} :
    evF Try.prog Γ (k + 1) 43 [.int .i64 a, .ro [.ros c L]] [] = some (.int .i64 (atV c a), []) := by
  have e1 : addI .i64 1 (c : Int) = 1 + (c : Int) := addI_i64 (by omega) (by omega)
  have e2 : addI .i64 (1 + (c : Int)) a = 1 + (c : Int) + a := addI_i64 (by omega) (by omega)
  rw [b43 (fun _ _ => rfl) _ _ (by simp)]
  unfold atV
  by_cases h : a < 0
  · simp -implicitDefEqProofs [h]
  · have e3 : ((1 + c + a.toNat : Nat) : Int) = 1 + (c : Int) + a := by omega
    simp -implicitDefEqProofs [h, e1, e2]
    omega
theorem index_ok (L : List ByteArray) (p : Nat) (hp : p < L.length) (hL : L.length ≤ 1000) (hn : ∀ t (ht : t < p), L[t]'(by omega) ≠ L[p]) {k : Nat} (hk : L.length < k) :
    evF Try.prog Γ (k + 1) 44 [.ros L.length (flatE strE L), .str L[p]] [] = some (.int .i64 p, []) := by
  rw [b44 (fun _ _ => rfl) _ _ (by simp)]
  simp -implicitDefEqProofs
  generalize hx : evLoopC _ _ _ _ _ _ _ _ _ _ = R
  apply loop_gen hx (fun i : Nat => (mkL 19 .junk [(0, .ros L.length (flatE strE L)), (1, .str L[p]), (7, .int .i64 L.length), (8, .int .i64 i)], [none]))
    (fun i => i ≤ p) (fun i => L.length - i) 0
  case hI => exact Nat.zero_le _
  case hq => omega
  case ht => simp -implicitDefEqProofs [liveOf]
  case round =>
    rintro i hi _
    clear hx
    have hlt : i < L.length := by omega
    have hlt2 : (i : Int) < L.length := by omega
    have m0 := drop_str L i hlt
    have e2 : addI .i64 (i : Int) 1 = (i : Int) + 1 := addI_i64 (by omega) (by omega)
    by_cases hip : i = p
    · subst hip
      simp -implicitDefEqProofs [hlt, hlt2, m0]
    · have hne : ¬ L[p] = L[i] := fun h => hn i (by omega) h.symm
      simp -implicitDefEqProofs [hlt, hlt2, m0, hne, e2]
      exact rnd_next (i + 1) (by show i + 1 ≤ p; omega) (by omega) (by simp -implicitDefEqProofs [liveOf])
end Go.Ev.Try

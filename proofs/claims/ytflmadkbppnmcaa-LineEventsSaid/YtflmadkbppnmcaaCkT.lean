import Derived.Test.YtflmadkbppnmcaaCkS
import Derived.Test.YtflmadkbppnmcaaCkE
set_option linter.unusedSimpArgs false
set_option linter.unusedVariables false
set_option maxRecDepth 100000
set_option maxHeartbeats 4000000
namespace Go.Ev.Try
open Go Go.Ev Go.Proofs
theorem conv_iu (H : Heap) (x : Int) (h : 0 ≤ x ∧ x ≤ 9223372036854775807) : convertV Try.prog H 3 91 (.int .i64 x) = some (.int .u64 x, H) := by
  have : IntKind.u64.wrap x = x := by unfold IntKind.wrap; simp [IntKind.bits, IntKind.signed]; omega
  simp [convertV, this]
theorem conv_ui (H : Heap) (x : Int) (h : 0 ≤ x ∧ x ≤ 9223372036854775807) : convertV Try.prog H 91 3 (.int .u64 x) = some (.int .i64 x, H) := by
  have := wrap_i64 (z := x) (by omega) (by omega)
  simp [convertV, this]
theorem shr_one (a : Nat) : shrI .u64 (a : Int) 1 = ((a / 2 : Nat) : Int) := by
  rw [shrI_eq]
  have : (2 : Int) ^ (min (1 : Int).toNat (IntKind.bits .u64)) = 2 := rfl
  rw [this]
  show (a : Int).fdiv ((2 : Nat) : Int) = _
  rw [← Int.ofNat_fdiv]
theorem ss_lt {L : List ByteArray} (hs : SS L) {i j : Nat} (hi : i < L.length) (hj : j < L.length) (h : i < j) : ltS L[i] L[j] = true := List.pairwise_iff_getElem.1 hs i j hi hj h
theorem nan_ok (a : ByteArray) {k : Nat} : evF Try.prog Γ (k + 1) 78 [.str a] [] = some (.bool false, []) := by
  rw [b78 (fun _ _ => rfl) _ _ (by simp)]
  simp -implicitDefEqProofs
theorem less_ok (a b : ByteArray) {k : Nat} (hk : 0 < k) : evF Try.prog Γ (k + 1) 55 [.str a, .str b] [] = some (.bool (Op.bytesLess a.toList b.toList), []) := by
  obtain ⟨k, rfl⟩ : ∃ j, k = j + 1 := ⟨k - 1, by omega⟩
  have n1 := nan_ok a (k := k)
  rw [b55 (fun _ _ => rfl) _ _ (by simp)]
  simp -implicitDefEqProofs [n1]
theorem bsearch_ok (L : List ByteArray) (hs : SS L) (p : Nat) (hp : p < L.length) (hL : L.length ≤ 8796093022208) {k : Nat} (hk : L.length + 5 < k) :
    evF Try.prog Γ (k + 1) 41 [.ros L.length (flatE strE L), .str L[p]] [] = some (.tup [.int .i64 p, .bool true], []) := by
  obtain ⟨k, rfl⟩ : ∃ j, k = j + 3 := ⟨k - 3, by omega⟩
  rw [b41 (fun _ _ => rfl) _ _ (by simp)]
  simp -implicitDefEqProofs
  generalize hx : evLoopC _ _ _ _ _ _ _ _ _ _ = R
  apply loop_gen hx (fun (a : Nat × Nat) => (mkL 54 .junk [(0, .ros L.length (flatE strE L)), (1, .str L[p]), (6, .int .i64 L.length), (7, .int .i64 a.1), (8, .int .i64 a.2)], [none]))
    (fun a => a.1 ≤ p ∧ p ≤ a.2 ∧ a.2 ≤ L.length) (fun a => a.2 - a.1) (0, L.length)
  case hI => exact ⟨by omega, by omega, by omega⟩
  case hq => simp only; omega
  case ht => simp -implicitDefEqProofs [liveOf]
  case round =>
    rintro ⟨i, j⟩ ⟨h1, h2, h3⟩ _
    clear hx
    simp only at h1 h2 h3
    by_cases hlt : i < j
    · have hlt2 : (i : Int) < j := by omega
      have hh : (i + j) / 2 < L.length := by omega
      have e1 : addI .i64 (i : Int) (j : Int) = ((i + j : Nat) : Int) := by rw [addI_i64 (by omega) (by omega)]; omega
      have e2 := shr_one (i + j)
      have c1 := conv_iu [none] ((i + j : Nat) : Int) (by omega)
      have c2 := conv_ui [none] (((i + j) / 2 : Nat) : Int) (by omega)
      have e3 : addI .i64 (((i + j) / 2 : Nat) : Int) 1 = (((i + j) / 2 + 1 : Nat) : Int) := by rw [addI_i64 (by omega) (by omega)]; omega
      have m0 := drop_str L _ hh
      have hh2 : (((i + j) / 2 : Nat) : Int) < L.length := by omega
      have hlo : (i + j) / 2 < p → ltS L[(i + j) / 2] L[p] = true := fun h => ss_lt hs hh hp h
      have hhi : ¬ (i + j) / 2 < p → ltS L[(i + j) / 2] L[p] = false := fun h => by
        rcases Nat.lt_or_ge p ((i + j) / 2) with h' | h'
        · exact ltS_asymm (ss_lt hs hp hh h')
        · have : (i + j) / 2 = p := by omega
          simp only [this]; exact ltS_irrefl _
      have hm1 : (i + j) / 2 < j := by omega
      have hm2 : i ≤ (i + j) / 2 := by omega
      generalize hw : (i + j) / 2 = w at *
      generalize hs' : i + j = s' at *
      generalize L[w] = y at *
      have cl := less_ok y L[p] (k := k + 2) (by omega)
      by_cases hwp : w < p
      · have hlts : Op.bytesLess y.toList L[p].toList = true := hlo hwp
        simp -implicitDefEqProofs [hlt, hlt2, e1, e2, c1, c2, e3, m0, hh, hh2, hlts, cl]
        exact rnd_next (w + 1, j) ⟨by simp only; omega, h2, h3⟩ (by simp only; omega) (by simp -implicitDefEqProofs [liveOf])
      · have hlts : Op.bytesLess y.toList L[p].toList = false := hhi hwp
        simp -implicitDefEqProofs [hlt, hlt2, e1, e2, c1, c2, e3, m0, hh, hh2, hlts, cl]
        exact rnd_next (i, w) ⟨h1, by simp only; omega, by simp only; omega⟩ (by simp only; omega) (by simp -implicitDefEqProofs [liveOf])
    · obtain rfl : i = p := by omega
      obtain rfl : j = i := by omega
      have hlt2 : ¬ (j : Int) < j := by omega
      have hp2 : (j : Int) < L.length := by omega
      have m0 := drop_str L j hp
      simp -implicitDefEqProofs [hlt2, hp, hp2, m0]
theorem at_ok (c : Nat) (L : List V) (a : Int) (ha : -1 ≤ a ∧ a ≤ 1000) (hc : c ≤ 1000) {k : Nat} :
    evF Try.prog Γ (k + 1) 77 [.int .i64 a, .ro [.ros c L]] [] = some (.int .i64 (atV c a), []) := by
  have e1 : addI .i64 1 (c : Int) = 1 + (c : Int) := addI_i64 (by omega) (by omega)
  have e2 : addI .i64 (1 + (c : Int)) a = 1 + (c : Int) + a := addI_i64 (by omega) (by omega)
  rw [b77 (fun _ _ => rfl) _ _ (by simp)]
  unfold atV
  by_cases h : a < 0
  · simp -implicitDefEqProofs [h]
  · have e3 : ((1 + c + a.toNat : Nat) : Int) = 1 + (c : Int) + a := by omega
    simp -implicitDefEqProofs [h, e1, e2]
    omega
end Go.Ev.Try

/-
  THE ASK SEAT: the law AskChecks, its walk (own work).
-/
import Derived.Test.YtmcakfjbefelgaaDoorAkL
import Derived.Test.YtmcakfjbefelgaaDoorAkA
set_option linter.unusedSimpArgs false
set_option linter.unusedVariables false
set_option maxRecDepth 100000
set_option maxHeartbeats 4000000
namespace Go.Ev.Tryd
open Go Go.Ev Go.Proofs

theorem asked_ok {k : Nat} (hk : 70 ≤ k) : evF Tryd.prog Γ k 9 [] [] = some (.bool true, []) := evF_mono hk _ _ _ _ asked0
theorem checks_ok (vs : List Cond) (ls : List Link) (zv zl : Bool) (most : Int) (hw : wts vs ≤ 1000000000000) (hls : ls.length ≤ 1000000000000) {k : Nat} (hk : wts vs + ls.length + 500 < k) :
    evF Tryd.prog Γ (k + 1) 3 [.agg [roV zv vs.length (flatE condE vs), roV zl ls.length (flatE linkE ls), .int .i64 most]] [] = some (.bool true, []) := by
  obtain ⟨k, rfl⟩ : ∃ j, k = j + 1 := ⟨k - 1, by omega⟩
  have hvl := wts_len vs
  have c9 := asked_ok (k := k + 1) (by omega)
  have c10 := check_ok vs ls zv zl most hw hls (k := k) (by omega)
  have c11 := fault_ok vs ls zv zl most hw hls (k := k) (by omega)
  rw [b3 (fun _ _ => rfl) _ _ (by simp)]
  simp -implicitDefEqProofs
  generalize hx : evLoopC _ _ _ _ _ _ _ _ _ _ = R
  apply loop_gen hx (fun i : Nat => (mkL 40 .junk [(1, .ptr 0 0), (9, roV zv vs.length (flatE condE vs)), (10, .int .i64 vs.length), (11, .int .i64 i)], [some (.cells [roV zv vs.length (flatE condE vs), roV zl ls.length (flatE linkE ls), .int .i64 most] true), none, none, none]))
    (fun i => i ≤ vs.length) (fun i => vs.length - i) 0
  case hI => exact Nat.zero_le _
  case hq => omega
  case ht => simp -implicitDefEqProofs [liveOf]
  case round =>
    rintro i hi _
    have hi : i ≤ vs.length := hi
    clear hx
    by_cases hlt : i < vs.length
    · have hlt2 : (i : Int) < vs.length := by omega
      have e2 : addI .i64 (i : Int) 1 = (i : Int) + 1 := addI_i64 (by omega) (by omega)
      have hat := at_cond' vs i hlt
      have h5 : 5 ≤ vs.length * 5 - i * 5 := by omega
      have hwi := wts_at hlt
      have c8 := size_ok (wt vs[i]) vs[i] (Nat.le_refl _) (by omega) (k := k) (by omega)
      have hse := sizeC_eq vs[i]
      have hsw := sizeC_wt vs[i]
      have hwe := wt_eq vs[i]
      have hkl := wts_len vs[i].kids
      have ck := fun (j : Nat) (h : j < vs[i].kids.length) => size_ok (wt vs[i].kids[j]) vs[i].kids[j] (Nat.le_refl _) (by have := kid_wt (List.getElem_mem h); omega) (k := k) (by have := kid_wt (List.getElem_mem h); omega)
      have hsz := sizeCs_wts vs[i].kids
      rw [condE_f] at hat c8
      rw [hse] at c8
      generalize vs[i] = x at *
      generalize x.kids = K at *
      simp -implicitDefEqProofs [hlt, hlt2, e2, hat, h5]
      generalize hy : evLoopC _ _ _ _ _ _ _ _ _ _ = R2
      apply loop_gen hy (fun j : Nat => (mkL 40 .junk [(1, .ptr 0 0), (4, .ptr 1 0), (5, .int .i64 ((1 + sizeCs (K.take j) : Nat) : Int)), (9, roV zv vs.length (flatE condE vs)), (10, .int .i64 vs.length), (11, .int .i64 i), (16, roV x.z K.length (flatE condE K)), (17, .int .i64 K.length), (18, .int .i64 j)], [some (.cells [roV zv vs.length (flatE condE vs), roV zl ls.length (flatE linkE ls), .int .i64 most] true), some (.cells [.int .i64 x.op, .str x.s, .int .i64 x.low, .int .i64 x.high, roV x.z K.length (flatE condE K)] true), none, none, none, none, none]))
        (fun j => j ≤ K.length) (fun j => K.length - j) 0
      case hI => exact Nat.zero_le _
      case hq => omega
      case ht => simp -implicitDefEqProofs [liveOf, sizeCs]
      case round =>
        rintro j hj _
        have hj : j ≤ K.length := hj
        clear hy
        by_cases hjl : j < K.length
        · have hjl2 : (j : Int) < K.length := by omega
          have e3 : addI .i64 (j : Int) 1 = (j : Int) + 1 := addI_i64 (by omega) (by omega)
          have hat2 := at_cond' K j hjl
          have hs : sizeCs (K.take (j + 1)) = sizeCs (K.take j) + sizeC K[j] := by rw [List.take_succ_eq_append_getElem hjl, sizeCs_snoc]
          have hle := sizeCs_take_le K (j + 1)
          have h6 : 5 ≤ K.length * 5 - j * 5 := by omega
          have c1 := ck j hjl
          have e4 : addI .i64 ((1 + sizeCs (K.take j) : Nat) : Int) (sizeC K[j] : Int) = ((1 + sizeCs (K.take (j + 1)) : Nat) : Int) := by rw [addI_i64 (by omega) (by omega)]; omega
          generalize hS1 : sizeCs (K.take (j + 1)) = S1 at *
          generalize sizeCs (K.take j) = S0 at *
          generalize sizeC K[j] = sz at *
          rw [condE_f] at hat2 c1
          generalize K[j] = y at *
          push_cast at e4
          simp -implicitDefEqProofs [hjl, hjl2, e3, hat2, h6, c1, e4]
          exact rnd_next (j + 1) hjl (by omega) (by simp -implicitDefEqProofs [liveOf, hS1])
        · obtain rfl : j = K.length := by omega
          rw [List.take_length]
          simp -implicitDefEqProofs [c8, e2]
          exact rnd_next (i + 1) hlt (by omega) (by simp -implicitDefEqProofs [liveOf])
    · obtain rfl : i = vs.length := by omega
      simp -implicitDefEqProofs [c9, c10, c11]
end Go.Ev.Tryd

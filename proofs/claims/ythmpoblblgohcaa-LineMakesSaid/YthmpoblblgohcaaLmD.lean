/-
  THE LINE SEAT: slices.Concat of marks (own work).
-/
import Derived.Test.YthmpoblblgohcaaLmC
import Derived.Test.YthmpoblblgohcaaLmC1
set_option linter.unusedSimpArgs false
set_option linter.unusedVariables false
set_option maxRecDepth 100000
set_option maxHeartbeats 4000000
namespace Go.Ev.Try
open Go Go.Ev Go.Proofs
theorem sub00 : subI .i64 0 0 = 0 := subI_i64 (by omega) (by omega)
theorem growT_zero {k : Nat} : evF Try.prog Γ (k + 1) 46 [.nils, .int .i64 0] [] = some (.nils, [none]) := by
  rw [b46 (fun _ _ => rfl) _ _ (by simp)]
  simp -implicitDefEqProofs [sub00]
theorem zeros_flatT (n : Nat) : zerosV [V.int .i64 0, V.int .i64 0, V.int .i64 0] n = flatE markE (List.replicate n mark0) := by
  induction n with
  | zero => rfl
  | succ n ih => rw [zerosV, ih]; rfl
theorem growT_ok (N : Nat) (hN : N ≤ 10000) {k : Nat} : evF Try.prog Γ (k + 1) 46 [.nils, .int .i64 ((N : Int) + 1)] [] = some (.sl 0 0 0 3, [some (.cells (flatE markE (List.replicate (N + 1) mark0)) false)]) := by
  have s1 : subI .i64 ((N : Int) + 1) 0 = (N : Int) + 1 := by rw [subI_eq, Int.sub_zero]; exact wrap_i64 (by omega) (by omega)
  have h1 : ¬ (N : Int) + 1 < 0 := by omega
  have h2 : (0 : Int) < (N : Int) + 1 := by omega
  have h3 : ((N : Int) + 1).toNat = N + 1 := by omega
  have h4 : ¬ 140737488355328 < (N + 1) * 24 := by omega
  rw [b46 (fun _ _ => rfl) _ _ (by simp)]
  simp -implicitDefEqProofs [sub00, s1, h1, h2, h3, h4, zeros_flatT]
  rfl
def lvT (p : Bool × List Mark) : V := roV p.1 p.2.length (flatE markE p.2)
def catT (LS : List (Bool × List Mark)) : List Mark := LS.flatMap (·.2)
theorem catT_take (LS : List (Bool × List Mark)) (i : Nat) (h : i < LS.length) : catT (LS.take (i + 1)) = catT (LS.take i) ++ LS[i].2 := by
  unfold catT; rw [List.take_succ_eq_append_getElem h, List.flatMap_append]; simp
theorem catT_len (LS : List (Bool × List Mark)) (i : Nat) : (catT (LS.take i)).length ≤ (catT LS).length := by
  have : catT LS = catT (LS.take i) ++ catT (LS.drop i) := by unfold catT; rw [← List.flatMap_append, List.take_append_drop]
  rw [this, List.length_append]; omega
/-- Behind a slice whose block goes on. -/
theorem append_inT {H : Heap} {id p m : Nat} {A B : List Mark} {b : Nat} (hH : H[id]? = some (some (.cells (flatE markE (A ++ List.replicate m mark0)) false))) (hA : A.length = p) (hB : B.length ≤ m) :
    appendS H 3 b (.sl id 0 p 3) B.length (flatE markE B) = some (.sl id 0 (p + B.length) 3, H.set id (some (.cells (flatE markE ((A ++ B) ++ List.replicate (m - B.length) mark0)) false))) := by
  have hl : (flatE markE (A ++ List.replicate m mark0)).length = (p + m) * 3 := by simp [hA]; omega
  have hlB : (flatE markE B).length = B.length * 3 := by simp
  have hlA : (flatE markE A).length = p * 3 := by simp [hA]
  simp only [appendS, hH, bne_self_eq_false, Bool.false_eq_true, if_false]
  by_cases h0 : B.length = 0
  · have hB0 : B = [] := List.length_eq_zero_iff.1 h0
    subst hB0
    simp only [List.length_nil, if_true, List.append_nil, Nat.sub_zero, Nat.add_zero]
    congr 2
    obtain ⟨h1, h2⟩ := List.getElem?_eq_some_iff.1 hH
    rw [← h2]; exact (List.set_getElem_self h1).symm
  · rw [if_neg h0, if_pos (by rw [hl]; omega)]
    simp only [writeCells, hH]
    rw [if_pos (by rw [hl, hlB]; omega)]
    simp only [Option.map_some]
    congr 4
    have e1 : List.take (0 + p * 3) (flatE markE (A ++ List.replicate m mark0)) = flatE markE A := by
      rw [flatE_append, List.take_append_of_le_length (by omega), List.take_of_length_le (by omega)]
    have e2 : List.drop (0 + p * 3 + (flatE markE B).length) (flatE markE (A ++ List.replicate m mark0)) = flatE markE (List.replicate (m - B.length) mark0) := by
      rw [flatE_append, List.drop_append, List.drop_of_length_le (by omega), List.nil_append]
      have : 0 + p * 3 + (flatE markE B).length - (flatE markE A).length = B.length * 3 := by omega
      rw [this]
      have h2 : List.replicate m mark0 = List.replicate B.length mark0 ++ List.replicate (m - B.length) mark0 := by
        rw [List.replicate_append_replicate]; congr 1; omega
      rw [h2, flatE_append, List.drop_append, List.drop_of_length_le (by simp)]
      simp
    rw [e1, e2]
    simp [flatE_append]
theorem take_lvT (LS : List (Bool × List Mark)) (i : Nat) (h : i < LS.length) : List.take 1 (List.drop i (LS.map lvT)) = [lvT LS[i]] := by
  rw [List.drop_eq_getElem_cons (by simpa using h)]; simp
theorem concat_marks (LS : List (Bool × List Mark)) (hn : LS.length ≤ 10) (hT : (catT LS).length ≤ 10000) {k : Nat} (hk : 20 < k) :
    evF Try.prog Γ (k + 1) 26 [.ros LS.length (LS.map lvT)] [] = some (ownV true 0 0 (catT LS).length 3, [ownB true (catT LS).length (flatE markE (catT LS))]) := by
  obtain ⟨k, rfl⟩ : ∃ j, k = j + 1 := ⟨k - 1, by omega⟩
  rw [b26 (fun _ _ => rfl) _ _ (by simp)]
  simp -implicitDefEqProofs
  generalize hx : evLoopC _ _ _ _ _ _ _ _ _ _ = R
  apply loop_gen hx (fun i : Nat => (mkL 36 .junk [(0, .ros LS.length (LS.map lvT)), (3, .int .i64 (catT (LS.take i)).length), (9, .ros LS.length (LS.map lvT)), (10, .int .i64 LS.length), (11, .int .i64 i)], [none, none]))
    (fun i => i ≤ LS.length) (fun i => LS.length - i) 0
  case hI => exact Nat.zero_le _
  case hq => omega
  case ht => simp -implicitDefEqProofs [liveOf, catT]
  case round =>
    rintro i hi _
    clear hx
    have hi : i ≤ LS.length := hi
    by_cases hlt : i < LS.length
    · have hlt2 : (i : Int) < LS.length := by omega
      have ms := take_lvT LS i hlt
      have h1 : 1 ≤ LS.length - i := by omega
      have hs := catT_take LS i hlt
      have hs2 : ((catT (LS.take (i + 1))).length : Int) = ((catT (LS.take i)).length : Int) + (LS[i].2.length : Int) := by rw [hs, List.length_append]; simp
      have hb := catT_len LS (i + 1)
      have e1 : addI .i64 ((catT (LS.take i)).length : Int) (LS[i].2.length : Int) = ((catT (LS.take i)).length : Int) + (LS[i].2.length : Int) := addI_i64 (by omega) (by omega)
      have e2 : addI .i64 (i : Int) 1 = (i : Int) + 1 := addI_i64 (by omega) (by omega)
      have h2 : ¬ ((catT (LS.take i)).length : Int) + (LS[i].2.length : Int) < 0 := by omega
      clear hs hb
      generalize LS[i] = x at *
      simp -implicitDefEqProofs [hlt, hlt2, ms, h1, e1, e2, h2, lvT]
      exact rnd_next (i + 1) hlt (by omega) (by simp -implicitDefEqProofs [liveOf, hs2])
    · obtain rfl : i = LS.length := by omega
      have hlt2 : ¬ (LS.length : Int) < (LS.length : Int) := by omega
      have htk : LS.take LS.length = LS := List.take_of_length_le (Nat.le_refl _)
      rw [htk]
      cases hN : (catT LS).length with
      | zero =>
        have cg := growT_zero (k := k)
        have hz : ∀ i (h : i < LS.length), LS[i].2 = [] := fun i h => by
          have h1 := catT_len LS (i + 1)
          rw [catT_take LS i h, List.length_append] at h1
          exact List.length_eq_zero_iff.1 (by omega)
        have hcn : catT LS = [] := List.length_eq_zero_iff.1 hN
        simp -implicitDefEqProofs [hlt2, cg]
        generalize hx : evLoopC _ _ _ _ _ _ _ _ _ _ = R
        apply loop_gen hx (fun i : Nat => (mkL 36 .junk [(6, .nils), (25, .ros LS.length (LS.map lvT)), (26, .int .i64 LS.length), (27, .int .i64 i)], [none, none]))
          (fun i => i ≤ LS.length) (fun i => LS.length - i) 0
        case hI => exact Nat.zero_le _
        case hq => omega
        case ht => simp -implicitDefEqProofs [liveOf]
        case round =>
          rintro i hi _
          clear hx
          have hi : i ≤ LS.length := hi
          by_cases hlt : i < LS.length
          · have hlt2 : (i : Int) < LS.length := by omega
            have ms := take_lvT LS i hlt
            have h1 : 1 ≤ LS.length - i := by omega
            have hzi := hz i hlt
            have e2 : addI .i64 (i : Int) 1 = (i : Int) + 1 := addI_i64 (by omega) (by omega)
            generalize LS[i] = x at *
            simp -implicitDefEqProofs [hlt, hlt2, ms, h1, e2, lvT, hzi]
            exact rnd_next (i + 1) hlt (by omega) (by simp -implicitDefEqProofs [liveOf])
          · obtain rfl : i = LS.length := by omega
            simp -implicitDefEqProofs [hlt2, hcn]
      | succ N =>
        have cg := growT_ok N (by omega) (k := k)
        simp -implicitDefEqProofs [hlt2, cg]
        generalize hx : evLoopC _ _ _ _ _ _ _ _ _ _ = R
        apply loop_gen hx (fun i : Nat => (mkL 36 .junk [(6, .sl 0 0 (catT (LS.take i)).length 3), (25, .ros LS.length (LS.map lvT)), (26, .int .i64 LS.length), (27, .int .i64 i)], [some (.cells (flatE markE (catT (LS.take i) ++ List.replicate (N + 1 - (catT (LS.take i)).length) mark0)) false), none]))
          (fun i => i ≤ LS.length) (fun i => LS.length - i) 0
        case hI => exact Nat.zero_le _
        case hq => omega
        case ht => simp -implicitDefEqProofs [liveOf, catT]
        case round =>
          rintro i hi _
          clear hx
          have hi : i ≤ LS.length := hi
          by_cases hlt : i < LS.length
          · have hlt2 : (i : Int) < LS.length := by omega
            have ms := take_lvT LS i hlt
            have h1 : 1 ≤ LS.length - i := by omega
            have hs := catT_take LS i hlt
            have hb := catT_len LS (i + 1)
            have hsl : (catT (LS.take (i + 1))).length = (catT (LS.take i)).length + LS[i].2.length := by rw [hs, List.length_append]
            rw [hN] at hb
            have ha := append_inT (H := [some (.cells (flatE markE (catT (LS.take i) ++ List.replicate (N + 1 - (catT (LS.take i)).length) mark0)) false), none]) (id := 0) (b := 24) (A := catT (LS.take i)) (B := LS[i].2) rfl rfl (by omega)
            have hm : N + 1 - (catT (LS.take i)).length - LS[i].2.length = N + 1 - (catT (LS.take (i + 1))).length := by omega
            rw [hm, ← hs, ← hsl] at ha
            have e2 : addI .i64 (i : Int) 1 = (i : Int) + 1 := addI_i64 (by omega) (by omega)
            clear hm hs hb hsl
            have hfl : List.take (LS[i].2.length * 3) (flatE markE LS[i].2) = flatE markE LS[i].2 := List.take_of_length_le (by simp)
            generalize LS[i] = x at *
            simp only [List.set_cons_zero] at ha
            generalize hP : flatE markE (catT (LS.take i) ++ List.replicate (N + 1 - (catT (LS.take i)).length) mark0) = P at *
            generalize hQ : flatE markE (catT (LS.take (i + 1)) ++ List.replicate (N + 1 - (catT (LS.take (i + 1))).length) mark0) = Q at *
            have hQr : refsL Q = [] := by rw [← hQ]; simp
            have hQs : ∀ hp hs hm, subL hp hs hm Q = Q := by intro hp hs hm; rw [← hQ]; simp
            simp -implicitDefEqProofs [hlt, hlt2, ms, h1, e2, lvT, ha, hfl]
            exact rnd_next (i + 1) hlt (by omega) (by simp -implicitDefEqProofs [liveOf, hQr, hQs, ← hQ])
          · obtain rfl : i = LS.length := by omega
            have hz0 : N + 1 - (catT LS).length = 0 := by omega
            simp -implicitDefEqProofs [hlt2, htk, hN]
end Go.Ev.Try

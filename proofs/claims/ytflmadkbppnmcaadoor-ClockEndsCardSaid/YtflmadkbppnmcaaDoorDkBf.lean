/-
  THE CLOCK DOOR SEAT (printed by wip/tools/port.py): Equal and Concat of numbers, Equal of pairs (own work).
-/
import Derived.Test.YtflmadkbppnmcaaDoorDkZ
import Derived.Test.YtflmadkbppnmcaaDoorDkC4
set_option linter.unusedSimpArgs false
set_option linter.unusedVariables false
set_option maxRecDepth 100000
set_option maxHeartbeats 4000000
namespace Go.Ev.Tryd
open Go Go.Ev Go.Proofs

theorem equal_ints (a b : List Int) (za zb : Bool) (ha : a.length ≤ 8796093022208) {k : Nat} (hk : a.length < k) :
    evF Tryd.prog Γ (k + 1) 20 [roV za a.length (flatE (intE .i64) a), roV zb b.length (flatE (intE .i64) b)] [] = some (.bool (decide (a = b)), []) := by
  rw [b20 (fun _ _ => rfl) _ _ (by simp)]
  by_cases hl : a.length = b.length
  · have hl2 : (a.length : Int) = b.length := by omega
    simp -implicitDefEqProofs [hl2, hl]
    generalize hx : evLoopC _ _ _ _ _ _ _ _ _ _ = R
    apply loop_gen hx (fun i : Nat => (mkL 26 .junk [(0, roV za b.length (flatE (intE .i64) a)), (1, roV zb b.length (flatE (intE .i64) b)), (12, .int .i64 b.length), (13, .int .i64 i)], [none, none]))
      (fun i => i ≤ a.length ∧ a.take i = b.take i) (fun i => a.length - i) 0
    case hI => simp
    case hq => omega
    case ht => simp -implicitDefEqProofs [liveOf]
    case round =>
      rintro i ⟨hi, hI⟩ _
      clear hx
      by_cases hlt : i < a.length
      · have hb : i < b.length := by omega
        have hlt2 : (i : Int) < (b.length : Int) := by omega
        have e2 : addI .i64 (i : Int) 1 = (i : Int) + 1 := addI_i64 (by omega) (by omega)
        have ma := at_flatE1 (intE .i64) rfl a i hlt
        have mb := at_flatE1 (intE .i64) rfl b i hb
        have b1 : 1 ≤ a.length - i := by omega
        have b2 : 1 ≤ b.length - i := by omega
        by_cases he : a[i] = b[i]
        · have hnext : a.take (i + 1) = b.take (i + 1) := by
            rw [List.take_succ_eq_append_getElem hlt, List.take_succ_eq_append_getElem hb, hI, he]
          generalize a[i] = x at *
          generalize b[i] = y at *
          simp -implicitDefEqProofs [hlt2, hb, e2, ma, mb, he, hlt]
          exact rnd_next (i + 1) ⟨hlt, hnext⟩ (by omega) (by simp -implicitDefEqProofs [liveOf])
        · have hne : ¬ a = b := fun h => he (by subst h; rfl)
          generalize a[i] = x at *
          generalize b[i] = y at *
          simp -implicitDefEqProofs [hlt2, hb, e2, ma, mb, he, hlt, hne]
      · have hi' : i = a.length := by omega
        subst hi'
        have hlt2 : ¬ (a.length : Int) < (b.length : Int) := by omega
        have heq : a = b := by rw [List.take_length, hl, List.take_length] at hI; exact hI
        simp -implicitDefEqProofs [hlt2, hl2, heq]
  · have hl2 : ¬ (a.length : Int) = b.length := by omega
    have hne : ¬ a = b := fun h => hl (by rw [h])
    simp -implicitDefEqProofs [hl2, hl, hne]

/-! ### slices.Concat -/
theorem sub00 : subI .i64 0 0 = 0 := by rw [subI_eq]; exact wrap_i64 (by omega) (by omega)
theorem grow_zero {k : Nat} : evF Tryd.prog Γ (k + 1) 37 [.nils, .int .i64 0] [] = some (.nils, [none]) := by
  rw [b37 (fun _ _ => rfl) _ _ (by simp)]
  simp -implicitDefEqProofs [sub00]
theorem zeros_flat (n : Nat) : zerosV [V.int .i64 0] n = flatE (intE .i64) (List.replicate n 0) := by
  induction n with
  | zero => rfl
  | succ n ih => rw [zerosV, ih]; rfl
theorem grow_ok (N : Nat) (hN : N ≤ 1000) {k : Nat} : evF Tryd.prog Γ (k + 1) 37 [.nils, .int .i64 ((N : Int) + 1)] [] = some (.sl 0 0 0 1, [some (.cells (flatE (intE .i64) (List.replicate (N + 1) 0)) false)]) := by
  have s1 : subI .i64 ((N : Int) + 1) 0 = (N : Int) + 1 := by rw [subI_eq, Int.sub_zero]; exact wrap_i64 (by omega) (by omega)
  have h1 : ¬ (N : Int) + 1 < 0 := by omega
  have h2 : (0 : Int) < (N : Int) + 1 := by omega
  have h3 : ((N : Int) + 1).toNat = N + 1 := by omega
  have h4 : ¬ 140737488355328 < (N + 1) * 8 := by omega
  rw [b37 (fun _ _ => rfl) _ _ (by simp)]
  simp -implicitDefEqProofs [sub00, s1, h1, h2, h3, h4, zeros_flat]
  rfl
def lv (p : Bool × List Int) : V := roV p.1 p.2.length (flatE (intE .i64) p.2)
def catL (LS : List (Bool × List Int)) : List Int := LS.flatMap (·.2)
theorem catL_take (LS : List (Bool × List Int)) (i : Nat) (h : i < LS.length) : catL (LS.take (i + 1)) = catL (LS.take i) ++ LS[i].2 := by
  unfold catL; rw [List.take_succ_eq_append_getElem h, List.flatMap_append]; simp
theorem catL_len (LS : List (Bool × List Int)) (i : Nat) : (catL (LS.take i)).length ≤ (catL LS).length := by
  have : catL LS = catL (LS.take i) ++ catL (LS.drop i) := by unfold catL; rw [← List.flatMap_append, List.take_append_drop]
  rw [this, List.length_append]; omega
/-- Behind a slice whose block goes on. -/
theorem append_in {H : Heap} {id p m : Nat} {A B : List Int} {b : Nat} (hH : H[id]? = some (some (.cells (flatE (intE .i64) (A ++ List.replicate m 0)) false))) (hA : A.length = p) (hB : B.length ≤ m) :
    appendS H 1 b (.sl id 0 p 1) B.length (flatE (intE .i64) B) = some (.sl id 0 (p + B.length) 1, H.set id (some (.cells (flatE (intE .i64) ((A ++ B) ++ List.replicate (m - B.length) 0)) false))) := by
  have hl : (flatE (intE .i64) (A ++ List.replicate m 0)).length = p + m := by simp [hA]
  simp only [appendS, hH, bne_self_eq_false, Bool.false_eq_true, if_false]
  by_cases h0 : B.length = 0
  · have hB0 : B = [] := List.length_eq_zero_iff.1 h0
    subst hB0
    simp only [List.length_nil, if_true, List.append_nil, Nat.sub_zero, Nat.add_zero]
    congr 2
    obtain ⟨h1, h2⟩ := List.getElem?_eq_some_iff.1 hH
    rw [← h2]; exact (List.set_getElem_self h1).symm
  · rw [if_neg h0, if_pos (by rw [hl]; omega)]
    simp only [writeCells, hH]
    rw [if_pos (by rw [hl]; simp; omega)]
    simp only [Option.map_some]
    congr 4
    have e1 : List.take (0 + p * 1) (flatE (intE .i64) (A ++ List.replicate m 0)) = flatE (intE .i64) A := by
      rw [flatE_append, List.take_append_of_le_length (by simp [hA]), List.take_of_length_le (by simp [hA])]
    have e2 : List.drop (0 + p * 1 + (flatE (intE .i64) B).length) (flatE (intE .i64) (A ++ List.replicate m 0)) = flatE (intE .i64) (List.replicate (m - B.length) 0) := by
      rw [flatE_append, List.drop_append, List.drop_of_length_le (by simp [hA]), List.nil_append]
      have : 0 + p * 1 + (flatE (intE .i64) B).length - (flatE (intE .i64) A).length = B.length := by simp [hA]
      rw [this]
      have h2 : List.replicate m (0 : Int) = List.replicate B.length 0 ++ List.replicate (m - B.length) 0 := by
        rw [List.replicate_append_replicate]; congr 1; omega
      rw [h2, flatE_append, List.drop_append, List.drop_of_length_le (by simp)]
      simp
    rw [e1, e2]
    simp [flatE_append]
theorem take_lv (LS : List (Bool × List Int)) (i : Nat) (h : i < LS.length) : List.take 1 (List.drop i (LS.map lv)) = [lv LS[i]] := by
  rw [List.drop_eq_getElem_cons (by simpa using h)]; simp
theorem concat_ints (LS : List (Bool × List Int)) (hn : LS.length ≤ 10) (hT : (catL LS).length ≤ 1000) {k : Nat} (hk : 20 < k) :
    evF Tryd.prog Γ (k + 1) 29 [.ros LS.length (LS.map lv)] [] = some (ownV true 0 0 (catL LS).length 1, [ownB true (catL LS).length (flatE (intE .i64) (catL LS))]) := by
  obtain ⟨k, rfl⟩ : ∃ j, k = j + 1 := ⟨k - 1, by omega⟩
  rw [b29 (fun _ _ => rfl) _ _ (by simp)]
  simp -implicitDefEqProofs
  generalize hx : evLoopC _ _ _ _ _ _ _ _ _ _ = R
  apply loop_gen hx (fun i : Nat => (mkL 36 .junk [(0, .ros LS.length (LS.map lv)), (3, .int .i64 (catL (LS.take i)).length), (9, .ros LS.length (LS.map lv)), (10, .int .i64 LS.length), (11, .int .i64 i)], [none, none]))
    (fun i => i ≤ LS.length) (fun i => LS.length - i) 0
  case hI => exact Nat.zero_le _
  case hq => omega
  case ht => simp -implicitDefEqProofs [liveOf, catL]
  case round =>
    rintro i hi _
    clear hx
    have hi : i ≤ LS.length := hi
    by_cases hlt : i < LS.length
    · have hlt2 : (i : Int) < LS.length := by omega
      have ms := take_lv LS i hlt
      have h1 : 1 ≤ LS.length - i := by omega
      have hs := catL_take LS i hlt
      have hs2 : ((catL (LS.take (i + 1))).length : Int) = ((catL (LS.take i)).length : Int) + (LS[i].2.length : Int) := by rw [hs, List.length_append]; simp
      have hb := catL_len LS (i + 1)
      have e1 : addI .i64 ((catL (LS.take i)).length : Int) (LS[i].2.length : Int) = ((catL (LS.take i)).length : Int) + (LS[i].2.length : Int) := addI_i64 (by omega) (by omega)
      have e2 : addI .i64 (i : Int) 1 = (i : Int) + 1 := addI_i64 (by omega) (by omega)
      have h2 : ¬ ((catL (LS.take i)).length : Int) + (LS[i].2.length : Int) < 0 := by omega
      clear hs hb
      generalize LS[i] = x at *
      simp -implicitDefEqProofs [hlt, hlt2, ms, h1, e1, e2, h2, lv]
      exact rnd_next (i + 1) hlt (by omega) (by simp -implicitDefEqProofs [liveOf, hs2])
    · obtain rfl : i = LS.length := by omega
      have hlt2 : ¬ (LS.length : Int) < (LS.length : Int) := by omega
      have htk : LS.take LS.length = LS := List.take_of_length_le (Nat.le_refl _)
      rw [htk]
      cases hN : (catL LS).length with
      | zero =>
        have cg := grow_zero (k := k)
        have hz : ∀ i (h : i < LS.length), LS[i].2 = [] := fun i h => by
          have h1 := catL_len LS (i + 1)
          rw [catL_take LS i h, List.length_append] at h1
          exact List.length_eq_zero_iff.1 (by omega)
        have hcn : catL LS = [] := List.length_eq_zero_iff.1 hN
        simp -implicitDefEqProofs [hlt2, cg]
        generalize hx : evLoopC _ _ _ _ _ _ _ _ _ _ = R
        apply loop_gen hx (fun i : Nat => (mkL 36 .junk [(6, .nils), (25, .ros LS.length (LS.map lv)), (26, .int .i64 LS.length), (27, .int .i64 i)], [none, none]))
          (fun i => i ≤ LS.length) (fun i => LS.length - i) 0
        case hI => exact Nat.zero_le _
        case hq => omega
        case ht => simp -implicitDefEqProofs [liveOf]
        case round =>
          rintro i hi _
          clear hx
          have hi : i ≤ LS.length := hi
          by_cases hlt : i < LS.length
          · have hlt2 : (i : Int) < LS.length := by omega
            have ms := take_lv LS i hlt
            have h1 : 1 ≤ LS.length - i := by omega
            have hzi := hz i hlt
            have e2 : addI .i64 (i : Int) 1 = (i : Int) + 1 := addI_i64 (by omega) (by omega)
            generalize LS[i] = x at *
            simp -implicitDefEqProofs [hlt, hlt2, ms, h1, e2, lv, hzi]
            exact rnd_next (i + 1) hlt (by omega) (by simp -implicitDefEqProofs [liveOf])
          · obtain rfl : i = LS.length := by omega
            simp -implicitDefEqProofs [hlt2, hcn]
      | succ N =>
        have cg := grow_ok N (by omega) (k := k)
        simp -implicitDefEqProofs [hlt2, cg]
        generalize hx : evLoopC _ _ _ _ _ _ _ _ _ _ = R
        apply loop_gen hx (fun i : Nat => (mkL 36 .junk [(6, .sl 0 0 (catL (LS.take i)).length 1), (25, .ros LS.length (LS.map lv)), (26, .int .i64 LS.length), (27, .int .i64 i)], [some (.cells (flatE (intE .i64) (catL (LS.take i) ++ List.replicate (N + 1 - (catL (LS.take i)).length) 0)) false), none]))
          (fun i => i ≤ LS.length) (fun i => LS.length - i) 0
        case hI => exact Nat.zero_le _
        case hq => omega
        case ht => simp -implicitDefEqProofs [liveOf, catL]
        case round =>
          rintro i hi _
          clear hx
          have hi : i ≤ LS.length := hi
          by_cases hlt : i < LS.length
          · have hlt2 : (i : Int) < LS.length := by omega
            have ms := take_lv LS i hlt
            have h1 : 1 ≤ LS.length - i := by omega
            have hs := catL_take LS i hlt
            have hb := catL_len LS (i + 1)
            have hsl : (catL (LS.take (i + 1))).length = (catL (LS.take i)).length + LS[i].2.length := by rw [hs, List.length_append]
            rw [hN] at hb
            have ha := append_in (H := [some (.cells (flatE (intE .i64) (catL (LS.take i) ++ List.replicate (N + 1 - (catL (LS.take i)).length) 0)) false), none]) (id := 0) (b := 8) (A := catL (LS.take i)) (B := LS[i].2) rfl rfl (by omega)
            have hm : N + 1 - (catL (LS.take i)).length - LS[i].2.length = N + 1 - (catL (LS.take (i + 1))).length := by omega
            rw [hm, ← hs, ← hsl] at ha
            have e2 : addI .i64 (i : Int) 1 = (i : Int) + 1 := addI_i64 (by omega) (by omega)
            clear hm hs hb hsl
            have hfl : List.take LS[i].2.length (flatE (intE .i64) LS[i].2) = flatE (intE .i64) LS[i].2 := List.take_of_length_le (by simp)
            generalize LS[i] = x at *
            simp only [List.set_cons_zero] at ha
            generalize hP : flatE (intE .i64) (catL (LS.take i) ++ List.replicate (N + 1 - (catL (LS.take i)).length) 0) = P at *
            generalize hQ : flatE (intE .i64) (catL (LS.take (i + 1)) ++ List.replicate (N + 1 - (catL (LS.take (i + 1))).length) 0) = Q at *
            have hQr : refsL Q = [] := by rw [← hQ]; simp
            have hQs : ∀ hp hs hm, subL hp hs hm Q = Q := by intro hp hs hm; rw [← hQ]; simp
            simp -implicitDefEqProofs [hlt, hlt2, ms, h1, e2, lv, ha, hfl]
            exact rnd_next (i + 1) hlt (by omega) (by simp -implicitDefEqProofs [liveOf, hQr, hQs, ← hQ])
          · obtain rfl : i = LS.length := by omega
            have hz0 : N + 1 - (catL LS).length = 0 := by omega
            simp -implicitDefEqProofs [hlt2, htk, hN]
end Go.Ev.Tryd

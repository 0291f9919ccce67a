/-
  THE CLOCK SEAT: the reference's Ranges (own work).
-/
import Derived.Test.YtflmadkbppnmcaaCkBb
import Derived.Test.YtflmadkbppnmcaaCkBc
import Derived.Test.YtflmadkbppnmcaaCkBe
set_option linter.unusedSimpArgs false
set_option linter.unusedVariables false
set_option maxRecDepth 100000
set_option maxHeartbeats 4000000
namespace Go.Ev.Try
open Go Go.Ev Go.Proofs

theorem flat_split (A C : List Bd) (b : Bd) : flatE bE (A ++ b :: C) = flatE bE A ++ (V.int .i64 b.f :: V.int .i64 b.t :: V.int .i64 b.n :: flatE bE C) := by simp [bE_f]
theorem set_f (A C : List Bd) (b : Bd) (j v : Nat) (hj : A.length = j) : List.take (j * 3) (flatE bE (A ++ b :: C)) ++ V.int .i64 v :: List.drop (j * 3 + 1) (flatE bE (A ++ b :: C)) = flatE bE (A ++ ⟨v, b.t, b.n⟩ :: C) := by
  rw [flat_split, flat_split]
  have h : (flatE bE A).length = j * 3 := by simp [hj]
  rw [List.take_append_of_le_length (by omega), List.take_of_length_le (by omega), List.drop_append, List.drop_of_length_le (by omega), List.nil_append]
  have : j * 3 + 1 - (flatE bE A).length = 1 := by omega
  rw [this]; rfl
theorem set_t (A C : List Bd) (b : Bd) (j v : Nat) (hj : A.length = j) : List.take (j * 3 + 1) (flatE bE (A ++ b :: C)) ++ V.int .i64 v :: List.drop (j * 3 + 1 + 1) (flatE bE (A ++ b :: C)) = flatE bE (A ++ ⟨b.f, v, b.n⟩ :: C) := by
  rw [flat_split, flat_split]
  have h : (flatE bE A).length = j * 3 := by simp [hj]
  rw [List.take_append, List.take_of_length_le (by omega), List.drop_append, List.drop_of_length_le (by omega), List.nil_append]
  have h1 : j * 3 + 1 - (flatE bE A).length = 1 := by omega
  have h2 : j * 3 + 1 + 1 - (flatE bE A).length = 2 := by omega
  rw [h1, h2]; simp
/-- What Ranges returns. -/
def rangesV (l : List Event) (ties : List Tie) : Option (V × Heap) := match closed (nV l) (bds l ties) with
  | some d => some (.tup [ownV true 0 0 (nV l - 1) 2, .bool true], [ownB true (nV l - 1) (flatE pairE (ivs d 1 (nV l - 1)))])
  | none => some (.tup [.nils, .bool false], [none])
theorem ranges_ne (l : List Event) (ties : List Tie) (z z2 : Bool) (hr : Right l ties) (hne : l ≠ []) {k : Nat} (hk : 600 < k) :
    evF Try.prog Γ (k + 1) 15 [roV z l.length (flatE eventE l), roV z2 ties.length (flatE tieE ties)] [] = rangesV l ties := by
  obtain ⟨k, rfl⟩ : ∃ j, k = j + 1 := ⟨k - 1, by omega⟩
  have cb := bounds_ne l ties z z2 hr hne (k := k) (by omega)
  have hf := fit hr
  have hn := nV_le hr
  have hl1 : 0 < l.length := List.length_pos_iff.2 hne
  have hnn : nV l = 1 + nC l + l.length := rfl
  have hlen : (bds l ties).length ≤ 400 := by
    have h1 := hr.hl; have h2 := hr.ht; have h3 := hr.hc
    unfold bds; rw [List.length_append, List.length_append, bd0_length, bdE_length l _ (Nat.le_refl _), bdT_length]; unfold nC; omega
  have cf := far_ok hn hf.pos (bds l ties) hf.at_ (fun b hb => ⟨hf.lo b hb, hf.hi b hb⟩) hlen (k := k) (by omega)
  have hft := hf.turned
  have cg := far_ok hn hf.pos (turned (bds l ties)) hft.at_ (fun b hb => ⟨hft.lo b hb, hft.hi b hb⟩) (by simpa [turned] using hlen) (k := k) (by omega)
  have hfc := far_closed hf
  unfold rangesV
  have tm := fun d (h : closed (nV l) (bds l ties) = some d) => clo_tame hr h
  have htl : (turned (bds l ties)).length = (bds l ties).length := by simp [turned]
  rw [htl] at cg
  have hpos : 0 < (bds l ties).length := by
    have : (⟨0, 1, 4294967295⟩ : Bd) ∈ bds l ties := hf.out 1 (by omega) (by omega)
    exact List.length_pos_of_mem this
  rw [b15 (fun _ _ => rfl) _ _ (by simp)]
  generalize hB : bds l ties = B at *
  generalize hN : nV l = n at *
  clear hB
  cases hc : closed n B with
  | none =>
    rw [hc] at hfc
    rw [hfc.2] at cf
    unfold farV at cf
    simp only at cf
    have ht3 : List.take (B.length * 3) (flatE bE B) = flatE bE B := List.take_of_length_le (by simp)
    simp -implicitDefEqProofs [cb, cf, ht3]
  | some d =>
    rw [hc] at hfc
    obtain ⟨hclo, ⟨x, hx1, hx2⟩, y, hy1, hy2⟩ := hfc
    rw [hx1] at cf
    rw [hy1] at cg
    unfold farV at cf cg
    simp only at cf cg
    rw [rowC_congr hx2] at cf
    rw [rowC_congr (g := fun i => d i 0) hy2] at cg
    have tm := tm d hc
    clear hx1 hx2 hy1 hy2 hc
    have ht3 : List.take (B.length * 3) (flatE bE B) = flatE bE B := List.take_of_length_le (by simp)
    simp -implicitDefEqProofs [cb, cf, ht3]
    generalize hx : evLoopC _ _ _ _ _ _ _ _ _ _ = R
    apply loop_gen hx (fun (j : Nat) => (mkL 75 .junk [(6, .sl 0 0 B.length 3), (7, .int .i64 n), (8, .sl 1 0 n 1), (30, .sl 0 0 B.length 3), (31, .int .i64 B.length), (32, .int .i64 j)], [some (.cells (flatE bE ((turned B).take j ++ B.drop j)) false), some (.cells (rowC n (d 0)) true), none]))
      (fun j => j ≤ B.length) (fun j => B.length - j) 0
    case hI => exact Nat.zero_le _
    case hq => omega
    case ht => simp -implicitDefEqProofs [liveOf]
    case round =>
      rintro j hj _
      clear hx
      have hj : j ≤ B.length := hj
      by_cases hjl : j < B.length
      · have hjl2 : (j : Int) < B.length := by omega
        have e3 : addI .i64 (j : Int) 1 = (j : Int) + 1 := addI_i64 (by omega) (by omega)
        have hA : ((turned B).take j).length = j := by rw [List.length_take, htl]; omega
        have hnext : (turned B).take (j + 1) = (turned B).take j ++ [⟨B[j].t, B[j].f, B[j].n⟩] := by
          rw [List.take_succ_eq_append_getElem (by omega)]; simp [turned]
        have hdrop : B.drop j = B[j] :: B.drop (j + 1) := List.drop_eq_getElem_cons hjl
        rw [hdrop]
        have hM : ((turned B).take j ++ B[j] :: B.drop (j + 1)).length = B.length := by simp [htl]; omega
        have ms := at_bds ((turned B).take j ++ B[j] :: B.drop (j + 1)) j (by omega)
        have hg : ((turned B).take j ++ B[j] :: B.drop (j + 1))[j]'(by omega) = B[j] := by rw [List.getElem_append_right (by omega)]; simp [hA]
        rw [hg] at ms
        have s1 := set_f ((turned B).take j) (B.drop (j + 1)) B[j] j B[j].t hA
        have s2 := set_t ((turned B).take j) (B.drop (j + 1)) ⟨B[j].t, B[j].t, B[j].n⟩ j B[j].f hA
        have hfin : flatE bE ((turned B).take j ++ ⟨B[j].t, B[j].f, B[j].n⟩ :: B.drop (j + 1)) = flatE bE ((turned B).take (j + 1) ++ B.drop (j + 1)) := by
          rw [hnext, List.append_assoc]; rfl
        simp only at s2
        rw [hfin] at s2
        clear hg hfin hnext hdrop
        have hM2 : ((turned B).take j ++ ⟨B[j].t, B[j].t, B[j].n⟩ :: B.drop (j + 1)).length = B.length := by simp [htl]; omega
        generalize B[j] = b at *
        generalize hL1 : (turned B).take j ++ b :: B.drop (j + 1) = L1 at *
        generalize hL2 : (turned B).take j ++ ⟨b.t, b.t, b.n⟩ :: B.drop (j + 1) = L2 at *
        have h3 : 3 ≤ B.length * 3 - j * 3 := by omega
        have h5 : j * 3 + 1 ≤ B.length * 3 := by omega
        have h6 : j * 3 + 1 + 1 ≤ B.length * 3 := by omega
        simp -implicitDefEqProofs [hjl, hjl2, e3, ms, s1, s2, hM, hM2, h3, h5, h6]
        exact rnd_next (j + 1) hjl (by omega) (by simp -implicitDefEqProofs [liveOf])
      · obtain rfl : j = B.length := by omega
        have hjl2 : ¬ (B.length : Int) < (B.length : Int) := by omega
        have hT1 : (turned B).take B.length = turned B := List.take_of_length_le (by omega)
        have hT2 : B.drop B.length = [] := List.drop_of_length_le (Nat.le_refl _)
        have ht4 : List.take (B.length * 3) (flatE bE (turned B)) = flatE bE (turned B) := List.take_of_length_le (by simp [htl])
        obtain ⟨m, rfl⟩ : ∃ m, n = m + 1 := ⟨n - 1, by omega⟩
        have hcast : ((m + 1 : Nat) : Int) = (m : Int) + 1 := by omega
        rw [hcast] at cg
        simp -implicitDefEqProofs [hjl2, hT1, hT2, ht4, htl, cg]
        generalize hx : evLoopC _ _ _ _ _ _ _ _ _ _ = R
        apply loop_gen hx (fun (q : Nat) => (mkL 75 .junk [(7, .int .i64 ((m : Int) + 1)), (8, .sl 0 0 (m + 1) 1), (12, .sl 1 0 (m + 1) 1), (14, ownV true 2 0 q 2), (15, .int .i64 ((q : Int) + 1))], [some (.cells (rowC (m + 1) (d 0)) true), some (.cells (rowC (m + 1) fun i => d i 0) true), ownB true q (flatE pairE (ivs d 1 q))]))
          (fun q => q ≤ m) (fun q => m - q) 0
        case hI => exact Nat.zero_le _
        case hq => omega
        case ht => simp -implicitDefEqProofs [liveOf]
        case round =>
          rintro q hq _
          clear hx
          have hq : q ≤ m := hq
          by_cases hql : q < m
          · have hql2 : (q : Int) < m := by omega
            have hq1 : 1 + q < m + 1 := by omega
            have hq0 : 0 < m + 1 := by omega
            have d1 := rowC_drop (d 0) (show q + 1 < m + 1 by omega)
            have d2 := rowC_drop (fun i => d i 0) (show q + 1 < m + 1 by omega)
            have b1 := tm (q + 1) 0 (by omega) (by omega)
            have e1 : IntKind.i64.wrap (-(d (q + 1) 0)) = -(d (q + 1) 0) := wrap_i64 (by omega) (by omega)
            have e2 : addI .i64 ((q : Int) + 1) 1 = (q : Int) + 1 + 1 := addI_i64 (by omega) (by omega)
            have hs := ivs_succ d 1 q
            rw [Nat.add_comm 1 q] at hs
            have hp0 : (0 : Int) ≤ (q : Int) + 1 := by omega
            have hq2 : (q : Int) + 1 < (m : Int) + 1 := by omega
            cases q with
            | zero =>
              simp at d1 d2 e1 e2 hs hq2
              simp -implicitDefEqProofs [hql, hql2, d1, d2, e1, e2, hq2, bldP, pairE_f]
              exact rnd_next 1 hql (by omega) (by simp -implicitDefEqProofs [liveOf, pairE_f, hs])
            | succ q =>
              have hb9 : (q + 1 + 1) * 16 ≤ 140737488355328 := by omega
              have htn : ((q : Int) + 1 + 1).toNat = q + 1 + 1 := by omega
              have hp1 : (0 : Int) ≤ (q : Int) + 1 + 1 := by omega
              simp at e2 hq2 hp0 hql2
              simp -implicitDefEqProofs [hql, hql2, d1, d2, e1, e2, hq2, hp0, hp1, htn, hb9, bldP, pairE_f]
              exact rnd_next (q + 1 + 1) hql (by omega) (by simp -implicitDefEqProofs [liveOf, pairE_f, hs])
          · obtain rfl : q = m := by omega
            have hql2 : ¬ (q : Int) < (q : Int) := by omega
            cases q <;> simp -implicitDefEqProofs
theorem ranges_ok (l : List Event) (ties : List Tie) (z z2 : Bool) (hr : Right l ties) {k : Nat} (hk : 600 < k) :
    evF Try.prog Γ (k + 1) 15 [roV z l.length (flatE eventE l), roV z2 ties.length (flatE tieE ties)] [] = rangesV l ties := by
  by_cases hne : l = []
  · subst hne
    have ht : ties = [] := by
      cases ties with
      | nil => rfl
      | cons t ts => have := hr.tie t (by simp); simp at this; omega
    subst ht
    exact evF_mono (show 60 ≤ k + 1 by omega) _ _ _ _ (ranges_nil z z2)
  · exact ranges_ne l ties z z2 hr hne hk
end Go.Ev.Try

/-
  THE CLOCK SEAT: line.Events (own work).
-/
import Derived.Test.YtflmadkbppnmcaaClM
import Derived.Test.YtflmadkbppnmcaaCkZ
set_option linter.unusedSimpArgs false
set_option linter.unusedVariables false
set_option maxRecDepth 100000
set_option maxHeartbeats 4000000
namespace Go.Ev.Try.Ln
open Go Go.Ev Go.Proofs

/-- Intervals with their numbers. -/
def numM (T : List (Int × Int)) : List Mark := T.zipIdx.map fun x => ⟨(x.2 : Int), x.1.1, x.1.2⟩
@[simp] theorem numM_length (T : List (Int × Int)) : (numM T).length = T.length := by simp [numM]
theorem numM_snoc (T : List (Int × Int)) (p : Int × Int) : numM (T ++ [p]) = numM T ++ [⟨(T.length : Int), p.1, p.2⟩] := by simp [numM, List.zipIdx_append]
theorem numM_succ (T : List (Int × Int)) (i : Nat) (h : i < T.length) : numM (T.take (i + 1)) = numM (T.take i) ++ [⟨(i : Int), T[i].1, T[i].2⟩] := by
  rw [List.take_succ_eq_append_getElem h, numM_snoc, List.length_take, Nat.min_eq_left (by omega)]
theorem numM_mem {T : List (Int × Int)} {m : Mark} (h : m ∈ numM T) : (m.low, m.high) ∈ T := by
  unfold numM at h
  obtain ⟨x, hx, rfl⟩ := List.mem_map.1 h
  exact (List.mem_zipIdx' hx).2 ▸ List.getElem_mem _
theorem num_fault {T : List (Int × Int)} (hn : T.length ≤ 400) (hr : ∀ p ∈ T, -4294967295 ≤ p.1 ∧ p.2 ≤ 4294967295 ∧ p.1 ≤ p.2) : faultM (lineM (numM T)) = 0 := by
  refine fault_valid ⟨?_, fun m hm => ?_, fun i h => ?_⟩
  · have := lineM_len (numM T); simp at this; omega
  · exact hr _ (numM_mem ((lineM_mem _ _).1 hm))
  · exact List.pairwise_iff_getElem.1 (lineM_ss (numM T)) i (i + 1) (by omega) h (by omega)
theorem ivs_right {l : List Event} {ties : List Tie} (hr : Right l ties) {d : Mat} (hc : closed (nV l) (bds l ties) = some d) : ∀ p ∈ ivs d (1 + nC l) l.length, -4294967295 ≤ p.1 ∧ p.2 ≤ 4294967295 ∧ p.1 ≤ p.2 := fun p hp => by
  have hf := fit hr
  have c := closed_some hf hc
  obtain ⟨i, hi, rfl⟩ := List.mem_map.1 hp
  have hi := List.mem_range.1 hi
  have hn : 1 + nC l + i < nV l := by unfold nV; omega
  have b1 := c.bound hf (b := ⟨0, nC l + i + 1, 4294967295⟩) (mem_bds.2 (.inl (mem_bd0.2 ⟨nC l + i, by omega, .inl rfl⟩)))
  have b2 := c.bound hf (b := ⟨nC l + i + 1, 0, 4294967295⟩) (mem_bds.2 (.inl (mem_bd0.2 ⟨nC l + i, by omega, .inr rfl⟩)))
  have ht := c.tri 0 0 (1 + nC l + i) hf.pos hf.pos hn
  have hd := c.diag 0 hf.pos
  simp only at b1 b2 ⊢
  rw [show nC l + i + 1 = 1 + nC l + i by omega] at b1 b2
  omega
theorem of_num (T : List (Int × Int)) (hn : T.length ≤ 400) (h0 : T.length ≠ 0) (hr : ∀ p ∈ T, -4294967295 ≤ p.1 ∧ p.2 ≤ 4294967295 ∧ p.1 ≤ p.2) {k : Nat} (hk : 2500 < k) :
    evF Try.prog Γ (k + 1) 45 [.ros T.length (flatE markE (numM T))] [] = some (.tup [.sl 0 0 (lineM (numM T)).length 3, .int .i64 0], [some (.cells (flatE markE (lineM (numM T)) ++ flatE markE (List.replicate (T.length - (lineM (numM T)).length) mark0)) false)]) := by
  have c := of_some (numM T) false (by simp; omega) (k := k) (by simp; omega) (by simpa using h0) 0 (num_fault hn hr).symm
  simpa using c
theorem bld60 (x y z : Int) : buildV Try.prog 60 [(0, V.int .i64 x), (1, V.int .i64 y), (2, V.int .i64 z)] = some (.agg [.int .i64 x, .int .i64 y, .int .i64 z]) := by kernel_rfl

theorem events_none (l : List Event) (ties : List Tie) (z z2 : Bool) {k : Nat} (e : Int) (he : ¬ e = 0) (c : evF Try.prog Γ k 18 [roV z l.length (flatE eventE l), roV z2 ties.length (flatE tieE ties)] [] = some (.tup [.nils, .int .i64 e], [none])) :
    evF Try.prog Γ (k + 1) 27 [roV z l.length (flatE eventE l), roV z2 ties.length (flatE tieE ties)] [] = some (.tup [.nils, .int .i64 e], [none]) := by
  rw [b27 (fun _ _ => rfl) _ _ (by simp)]
  simp -implicitDefEqProofs [c, he]
theorem events_zero (l : List Event) (ties : List Tie) (z z2 : Bool) {k : Nat} (hk : 2500 < k) (c : evF Try.prog Γ k 18 [roV z l.length (flatE eventE l), roV z2 ties.length (flatE tieE ties)] [] = some (.tup [.nils, .int .i64 0], [none])) :
    evF Try.prog Γ (k + 1) 27 [roV z l.length (flatE eventE l), roV z2 ties.length (flatE tieE ties)] [] = some (.tup [.nils, .int .i64 0], [none]) := by
  obtain ⟨k, rfl⟩ : ∃ j, k = j + 1 := ⟨k - 1, by omega⟩
  have c8 := of_nil (k := k) (by omega)
  rw [b27 (fun _ _ => rfl) _ _ (by simp)]
  simp -implicitDefEqProofs [c]
  generalize hx : evLoopC _ _ _ _ _ _ _ _ _ _ = R
  apply loop_gen hx (fun i : Nat => (mkL 41 .junk [(8, .nils), (20, .nils), (21, .int .i64 0), (22, .int .i64 0)], [none, none])) (fun _ => True) (fun i => 0) 0
  case hI => trivial
  case hq => omega
  case ht => simp -implicitDefEqProofs [liveOf]
  case round =>
    rintro i _ _
    clear hx
    simp -implicitDefEqProofs [c8]
theorem events_some (l : List Event) (ties : List Tie) (z z2 : Bool) (T : List (Int × Int)) (n : Nat) (hn : T.length = n + 1) (hT : T.length ≤ 400) (hr : ∀ p ∈ T, -4294967295 ≤ p.1 ∧ p.2 ≤ 4294967295 ∧ p.1 ≤ p.2) {k : Nat} (hk : 2501 < k)
    (c : evF Try.prog Γ k 18 [roV z l.length (flatE eventE l), roV z2 ties.length (flatE tieE ties)] [] = some (.tup [.sl 0 0 (n + 1) 2, .int .i64 0], [some (.cells (flatE pairE T) false)])) :
    evF Try.prog Γ (k + 1) 27 [roV z l.length (flatE eventE l), roV z2 ties.length (flatE tieE ties)] [] = some (.tup [.sl 0 0 (lineM (numM T)).length 3, .int .i64 0], [some (.cells (flatE markE (lineM (numM T)) ++ flatE markE (List.replicate (T.length - (lineM (numM T)).length) mark0)) false)]) := by
  obtain ⟨k, rfl⟩ : ∃ j, k = j + 1 := ⟨k - 1, by omega⟩
  have c8 := of_num T hT (by omega) hr (k := k) (by omega)
  rw [b27 (fun _ _ => rfl) _ _ (by simp)]
  simp -implicitDefEqProofs [c]
  generalize hx : evLoopC _ _ _ _ _ _ _ _ _ _ = R
  apply loop_gen hx (fun i : Nat => (mkL 41 .junk [(8, ownV true 0 0 i 3), (20, .sl 1 0 (n + 1) 2), (21, .int .i64 ((n : Int) + 1)), (22, .int .i64 i)], [ownB true i (flatE markE (numM (T.take i))), some (.cells (flatE pairE T) false)]))
    (fun i => i ≤ n + 1) (fun i => n + 1 - i) 0
  case hI => exact Nat.zero_le _
  case hq => omega
  case ht => simp -implicitDefEqProofs [liveOf]
  case round =>
    rintro i hi _
    have hi : i ≤ n + 1 := hi
    clear hx
    by_cases hlt : i < n + 1
    · have hlT : i < T.length := by omega
      have e2 : addI .i64 (i : Int) 1 = (i : Int) + 1 := addI_i64 (by omega) (by omega)
      have hat := at_pairs T i hlT
      have hs := numM_succ T i hlT
      have hlen : (numM (T.take i)).length = i := by simp; omega
      have hlt2 : (i : Int) < (n : Int) + 1 := by omega
      have h2 : 2 ≤ T.length * 2 - i * 2 := by omega
      generalize T[i] = p at *
      generalize numM (T.take i) = S at *
      cases i with
      | zero =>
        obtain rfl : S = [] := List.eq_nil_of_length_eq_zero hlen
        have e2 : addI .i64 0 1 = 1 := addI_i64 (by omega) (by omega)
        simp at hat hs
        have h2' : 2 ≤ T.length * 2 := by omega
        simp -implicitDefEqProofs [hlt, hlt2, e2, hat, h2, h2', bld60]
        exact rnd_next 1 (by simp) (by omega) (by simp -implicitDefEqProofs [liveOf, hs, markE_f])
      | succ q =>
        have hlt3 : q < n := by omega
        have hq0 : (0 : Int) ≤ (q : Int) + 1 := by omega
        have e3 : addI .i64 ((q : Int) + 1) 1 = (q : Int) + 1 + 1 := addI_i64 (by omega) (by omega)
        have hb : (q + 1 + 1) * 24 ≤ 140737488355328 := by omega
        simp at hs
        simp -implicitDefEqProofs [hlt, hlt2, e2, hat, h2, hlen, hb, hlt3, hq0, e3, bld60]
        exact rnd_next (q + 1 + 1) (by simp; omega) (by omega) (by simp -implicitDefEqProofs [liveOf, hs, markE_f])
    · obtain rfl : i = n + 1 := by omega
      have ht : T.take (n + 1) = T := List.take_of_length_le (by omega)
      have hm := tkM (numM T)
      rw [numM_length, hn] at hm
      rw [hn] at c8
      simp -implicitDefEqProofs [ht, hm, c8, hn]
end Go.Ev.Try.Ln

import Derived.Test.YtflmadkbppnmcaaCkV
import Derived.Test.YtflmadkbppnmcaaCkX0
set_option linter.unusedSimpArgs false
set_option linter.unusedVariables false
set_option maxRecDepth 100000
set_option maxHeartbeats 4000000
namespace Go.Ev.Try
open Go Go.Ev Go.Proofs
theorem ren_grid {m n : Nat} (d : Mat) : (gridH n d).map (Option.map (Blk.ren fun j => some (m + j))) = some (.cells (outC (m + 1) n) true) :: (List.range n).map fun i => rowB n (d i) := by
  simp only [gridH, List.map_cons, List.map_map]
  congr 1
  · simp only [Option.map_some, Blk.ren]; rw [renL_outC (c := m + 1) fun i hi => by rw [Nat.add_assoc]]
  · refine List.map_congr_left fun i _ => ?_
    simp [rowB, Blk.ren]
theorem own_grid (n : Nat) (d : Mat) : ((gridH n d).all fun b => match b with | some b => b.own | none => true) = true := by
  rw [List.all_eq_true]
  intro b hb
  rcases List.mem_cons.1 hb with rfl | hb
  · simp [Blk.own]
  · obtain ⟨i, _, rfl⟩ := List.mem_map.1 hb
    simp [rowB, Blk.own]
theorem grid_new (H : Heap) (n : Nat) (d : Mat) : Grid (H ++ (some (.cells (outC (H.length + 1) n) true) :: (List.range n).map fun i => rowB n (d i))) H.length (H.length + 1) n d := by
  refine ⟨by omega, ?_, fun i hi => ?_⟩
  · rw [List.getElem?_append_right (Nat.le_refl _)]; simp
  · rw [List.getElem?_append_right (by omega), show H.length + 1 + i - H.length = i + 1 by omega, List.getElem?_cons_succ]
    simp [hi]
theorem callPlain_grid {call : CallF} {H : Heap} {f n : Nat} {d : Mat} {args : List V} {r r' : V} (hc : call f (args.map (snap 4 H)) [] = some (r, gridH n d)) (ho : r.own = true) (hr : r.ren (fun j => some (H.length + j)) = r') :
    ∃ H', callPlain call H f args = some (r', H') ∧ Grid H' H.length (H.length + 1) n d ∧ H'.length = H.length + (n + 1) ∧ ∀ j, j < H.length → H'[j]? = H[j]? := by
  refine ⟨_, ?_, grid_new H n d, by simp, fun j hj => List.getElem?_append_left hj⟩
  unfold callPlain
  rw [hc]
  simp only
  rw [if_pos (by rw [ho, Bool.true_and]; exact own_grid n d), hr, ren_grid]
theorem finish_tup {H : Heap} {o b n : Nat} {d : Mat} (g : Grid H o b n d) (hn : n < 1000) (c : Bool) : finish 0 H (.tup [.sl o 0 n 1, .bool c]) = (.tup [.sl 0 0 n 1, .bool c], gridH n d) := by
  unfold finish
  have hp : place 0 H fuelR (rootLeaves 0 H ++ (V.tup [.sl o 0 n 1, .bool c]).leaves) [] = idsG o b n := g.place hn (Nat.zero_le _)
  simp only [hp, g.keep]
  congr 1
  simp [indexIn_o]
def SolvedNet (l : List Event) (ties : List Tie) (r : Option (V × Heap)) : Prop :=
  ∃ d', r = some (.tup [.sl 0 0 (nV l) 1, .bool (closed (nV l) (bds l ties)).isSome], gridH (nV l) d') ∧ ∀ d, closed (nV l) (bds l ties) = some d → d' = d
theorem solved_ne (l : List Event) (ties : List Tie) (z z2 : Bool) (hr : Right l ties) (hne : l ≠ []) {k : Nat} (hk : 300 < k) :
    SolvedNet l ties (evF Try.prog Γ (k + 1) 36 [roV z l.length (flatE eventE l), roV z2 ties.length (flatE tieE ties)] []) := by
  obtain ⟨k, rfl⟩ : ∃ j, k = j + 1 := ⟨k - 1, by omega⟩
  have hn53 := nV_le hr
  have cb := build_ok l ties z z2 hr hne (k := k) (by omega)
  obtain ⟨H1, c1, g1, _, _⟩ := callPlain_grid (call := evF Try.prog Γ (k + 1)) (H := []) (args := [roV z l.length (flatE eventE l), roV z2 ties.length (flatE tieE ties)]) (r' := .sl 0 0 (nV l) 1) (by simpa using cb) rfl (by simp)
  obtain ⟨d', hc, hd⟩ := close_ok (n := nV l) (by omega) (fit hr).tame (k := k) (by omega)
  obtain ⟨H2, c2, g2, _, _⟩ := callWide_grid (call := evF Try.prog Γ (k + 1)) (f := 54) (xs := []) g1 (by omega) rfl (fun _ => rfl) (fun _ => rfl) hc
  have hf := finish_tup (o := 0) (b := 0 + 1) g2 (by omega) (closed (nV l) (bds l ties)).isSome
  have hcl : (fw (nV l) (matOf net0 (bds l ties)) (nV l)).isSome = (closed (nV l) (bds l ties)).isSome := rfl
  rw [hcl] at c2
  simp only [List.length_nil] at c2
  refine ⟨d', ?_, hd⟩
  rw [b36 (fun _ _ => rfl) _ _ (by simp)]
  simp -implicitDefEqProofs [c1, c2, -finish, -callWide, -callPlain]
  rw [hf]
theorem solved_ok (l : List Event) (ties : List Tie) (z z2 : Bool) (hr : Right l ties) {k : Nat} (hk : 300 < k) :
    SolvedNet l ties (evF Try.prog Γ (k + 1) 36 [roV z l.length (flatE eventE l), roV z2 ties.length (flatE tieE ties)] []) := by
  by_cases hne : l = []
  · subst hne
    have ht : ties = [] := by
      cases ties with
      | nil => rfl
      | cons t ts => have := hr.tie t (by simp); simp at this; omega
    subst ht
    have hc : closed (nV []) (bds [] []) = some (phase 0 net0) := rfl
    refine ⟨phase 0 net0, ?_, fun d h => by rw [hc] at h; cases h; rfl⟩
    rw [hc]
    exact evF_mono (show 60 ≤ k + 1 by omega) _ _ _ _ (solved_nil z z2)
  · exact solved_ne l ties z z2 hr hne hk
def pairE : Enc (Int × Int) := ⟨fun p => [.int .i64 p.1, .int .i64 p.2], 2, fun _ => rfl, fun a v h => by simp at h; rcases h with h | h <;> subst h <;> rfl⟩
instance : pairE.Own := ⟨fun _ => rfl, fun _ => rfl⟩
@[simp] theorem pairE_k : pairE.k = 2 := rfl
theorem pairE_f (p : Int × Int) : pairE.f p = [.int .i64 p.1, .int .i64 p.2] := rfl
def ivs (d : Mat) (a c : Nat) : List (Int × Int) := (List.range c).map fun i => (- d (a + i) 0, d 0 (a + i))
@[simp] theorem ivs_length (d : Mat) (a c : Nat) : (ivs d a c).length = c := by simp [ivs]
@[simp] theorem ivs_zero (d : Mat) (a : Nat) : ivs d a 0 = [] := rfl
theorem ivs_succ (d : Mat) (a c : Nat) : ivs d a (c + 1) = ivs d a c ++ [(- d (a + c) 0, d 0 (a + c))] := by simp [ivs, List.range_succ]
theorem take_ros {n : Nat} (d : Mat) {i : Nat} (h : i < n) : List.take 1 (List.drop i (roG n d)) = [.ros n (rowC n (d i))] := by rw [roG_drop d h]; rfl
theorem take_int {n : Nat} (f : Nat → Int) {i : Nat} (h : i < n) : List.take 1 (List.drop i (rowC n f)) = [.int .i64 (f i)] := by rw [rowC_drop f h]; rfl
theorem bldP (x y : Int) : buildV Try.prog 44 [(0, V.int .i64 x), (1, V.int .i64 y)] = some (.agg [.int .i64 x, .int .i64 y]) := by kernel_rfl
theorem intervals_ok {n a c : Nat} (d : Mat) (h : a + c ≤ n) (hn : n < 1000) (hb : ∀ i j, i < n → j < n → -17179869180 ≤ d i j ∧ d i j ≤ 17179869180) {k : Nat} (hk : c < k) :
    evF Try.prog Γ (k + 1) 39 [.ros n (roG n d), .int .i64 a, .int .i64 c] [] = some (ownV true 0 0 c 2, [ownB true c (flatE pairE (ivs d a c))]) := by
  rw [b39 (fun _ _ => rfl) _ _ (by simp)]
  simp -implicitDefEqProofs
  generalize hx : evLoopC _ _ _ _ _ _ _ _ _ _ = R
  apply loop_gen hx (fun i : Nat => (mkL 36 .junk [(0, .ros n (roG n d)), (1, .int .i64 a), (7, ownV true 1 0 i 2), (9, .int .i64 c), (10, .int .i64 i)], [none, ownB true i (flatE pairE (ivs d a i))]))
    (fun i => i ≤ c) (fun i => c - i) 0
  case hI => simp
  case hq => omega
  case ht => simp -implicitDefEqProofs [liveOf]
  case round =>
    rintro i hi _
    clear hx
    by_cases hlt : i < c
    · have hlt2 : (i : Int) < c := by omega
      have m1 := take_ros d (show a + i < n by omega)
      have m2 : List.take 1 (roG n d) = [.ros n (rowC n (d 0))] := take_ros d (i := 0) (show 0 < n by omega)
      have m3 : List.take 1 (rowC n (d (a + i))) = [.int .i64 (d (a + i) 0)] := take_int (d (a + i)) (i := 0) (show 0 < n by omega)
      have m4 := take_int (d 0) (show a + i < n by omega)
      have b1 := hb (a + i) 0 (by omega) (by omega)
      have b2 := hb 0 (a + i) (by omega) (by omega)
      have e0 : addI .i64 (a : Int) (i : Int) = (a : Int) + i := addI_i64 (by omega) (by omega)
      have e1 : IntKind.i64.wrap (-(d (a + i) 0)) = -(d (a + i) 0) := wrap_i64 (by omega) (by omega)
      have e2 : addI .i64 (i : Int) 1 = (i : Int) + 1 := addI_i64 (by omega) (by omega)
      have h0 : (0 : Int) ≤ (a : Int) + i := by omega
      have h1 : (a : Int) + i < n := by omega
      have h2 : ((a : Int) + i).toNat = a + i := by omega
      have h3 : (0 : Int) < n := by omega
      have h5 : 0 < n := by omega
      have h6 : a + i < n := by omega
      have hs := ivs_succ d a i
      cases i with
      | zero =>
        simp at h0 h1 h2 e0 e1 e2 m1 m3 m4 hs
        simp -implicitDefEqProofs [hlt, hlt2, e0, e1, e2, h0, h1, h2, h3, h5, h6, m1, m2, m3, m4, bldP, pairE_f]
        exact rnd_next 1 hlt (by omega) (by simp -implicitDefEqProofs [liveOf, pairE_f, hs])
      | succ i =>
        have hc1 : ((i : Int) + 1) < c := by omega
        have hb9 : (i + 1 + 1) * 16 ≤ 140737488355328 := by omega
        have hp0 : (0 : Int) ≤ (i : Int) + 1 := by omega
        simp at h0 h1 h2 e0 e1 e2 m1 m4
        simp -implicitDefEqProofs [hlt, hlt2, hc1, hb9, hp0, e0, e1, e2, h0, h1, h2, h3, h5, h6, m1, m2, m3, m4, bldP, pairE_f]
        exact rnd_next (i + 1 + 1) hlt (by omega) (by simp -implicitDefEqProofs [liveOf, pairE_f, hs])
    · have hi' : i = c := by omega
      subst hi'
      have hlt2 : ¬ (i : Int) < (i : Int) := by omega
      cases i <;> simp -implicitDefEqProofs
end Go.Ev.Try

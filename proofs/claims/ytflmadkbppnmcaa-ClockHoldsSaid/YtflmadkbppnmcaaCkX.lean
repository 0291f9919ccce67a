/-
  THE CLOCK SEAT: solved, intervals (own work).
-/
import Derived.Test.YtflmadkbppnmcaaCkV
import Derived.Test.YtflmadkbppnmcaaCkX0
set_option linter.unusedSimpArgs false
set_option linter.unusedVariables false
set_option maxRecDepth 100000
set_option maxHeartbeats 4000000
namespace Go.Ev.Try
open Go Go.Ev Go.Proofs

theorem ren_grid {m n : Nat} (d : Mat) : (gridH n d).map (Option.map (Blk.ren fun j => some (m + j))) = some (.cells (outC (m + 1) n) true) :: (List.range n).map fun i => rowB n (d i) := by
  simp only [gridH, List.map_cons, List.map_map]
  congr 1
  · simp only [Option.map_some, Blk.ren]; rw [renL_outC (c := m + 1) fun i hi => by rw [Nat.add_assoc]]
  · refine List.map_congr_left fun i _ => ?_
    simp [rowB, Blk.ren]
theorem own_grid (n : Nat) (d : Mat) : ((gridH n d).all fun b => match b with | some b => b.own | none => true) = true := by
  rw [List.all_eq_true]
  intro b hb
  rcases List.mem_cons.1 hb with rfl | hb
  · simp [Blk.own]
  · obtain ⟨i, _, rfl⟩ := List.mem_map.1 hb
    simp [rowB, Blk.own]
theorem grid_new (H : Heap) (n : Nat) (d : Mat) : Grid (H ++ (some (.cells (outC (H.length + 1) n) true) :: (List.range n).map fun i => rowB n (d i))) H.length (H.length + 1) n d := by
  refine ⟨by omega, ?_, fun i hi => ?_⟩
  · rw [List.getElem?_append_right (Nat.le_refl _)]; simp
  · rw [List.getElem?_append_right (by omega), show H.length + 1 + i - H.length = i + 1 by omega, List.getElem?_cons_succ]
    simp [hi]
/-- A call that makes a grid. -/
theorem callPlain_grid {call : CallF} {H : Heap} {f n : Nat} {d : Mat} {args : List V} {r r' : V} (hc : call f (args.map (snap 4 H)) [] = some (r, gridH n d)) (ho : r.own = true) (hr : r.ren (fun j => some (H.length + j)) = r') :
    ∃ H', callPlain call H f args = some (r', H') ∧ Grid H' H.length (H.length + 1) n d ∧ H'.length = H.length + (n + 1) ∧ ∀ j, j < H.length → H'[j]? = H[j]? := by
  refine ⟨_, ?_, grid_new H n d, by simp, fun j hj => List.getElem?_append_left hj⟩
  unfold callPlain
  rw [hc]
  simp only
  rw [if_pos (by rw [ho, Bool.true_and]; exact own_grid n d), hr, ren_grid]
theorem finish_tup {H : Heap} {o b n : Nat} {d : Mat} (g : Grid H o b n d) (hn : n < 1000) (c : Bool) : finish 0 H (.tup [.sl o 0 n 1, .bool c]) = (.tup [.sl 0 0 n 1, .bool c], gridH n d) := by
  unfold finish
  have hp : place 0 H fuelR (rootLeaves 0 H ++ (V.tup [.sl o 0 n 1, .bool c]).leaves) [] = idsG o b n := g.place hn (Nat.zero_le _)
  simp only [hp, g.keep]
  congr 1
  simp [indexIn_o]
/-- What solved owes. -/
def SolvedNet (l : List Event) (ties : List Tie) (r : Option (V × Heap)) : Prop :=
  ∃ d', r = some (.tup [.sl 0 0 (nV l) 1, .bool (closed (nV l) (bds l ties)).isSome], gridH (nV l) d') ∧ ∀ d, closed (nV l) (bds l ties) = some d → d' = d
theorem solved_ne (l : List Event) (ties : List Tie) (z z2 : Bool) (hr : Right l ties) (hne : l ≠ []) {k : Nat} (hk : 300 < k) :
    SolvedNet l ties (evF Try.prog Γ (k + 1) 36 [roV z l.length (flatE eventE l), roV z2 ties.length (flatE tieE ties)] []) := by
  obtain ⟨k, rfl⟩ : ∃ j, k = j + 1 := ⟨k - 1, by omega⟩
  have hn53 := nV_le hr
  have cb := build_ok l ties z z2 hr hne (k := k) (by omega)
  obtain ⟨H1, c1, g1, _, _⟩ := callPlain_grid (call := evF Try.prog Γ (k + 1)) (H := []) (args := [roV z l.length (flatE eventE l), roV z2 ties.length (flatE tieE ties)]) (r' := .sl 0 0 (nV l) 1) (by simpa using cb) rfl (by simp)
  obtain ⟨d', hc, hd⟩ := close_ok (n := nV l) (by omega) (fit hr).tame (k := k) (by omega)
  obtain ⟨H2, c2, g2, _, _⟩ := callWide_grid (call := evF Try.prog Γ (k + 1)) (f := 54) (xs := []) g1 (by omega) rfl (fun _ => rfl) (fun _ => rfl) hc
  have hf := finish_tup (o := 0) (b := 0 + 1) g2 (by omega) (closed (nV l) (bds l ties)).isSome
  have hcl : (fw (nV l) (matOf net0 (bds l ties)) (nV l)).isSome = (closed (nV l) (bds l ties)).isSome := rfl
  rw [hcl] at c2
  simp only [List.length_nil] at c2
  refine ⟨d', ?_, hd⟩
  rw [b36 (fun _ _ => rfl) _ _ (by simp)]
  simp -implicitDefEqProofs [c1, c2, -finish, -callWide, -callPlain]
  rw [hf]

theorem solved_ok (l : List Event) (ties : List Tie) (z z2 : Bool) (hr : Right l ties) {k : Nat} (hk : 300 < k) :
    SolvedNet l ties (evF Try.prog Γ (k + 1) 36 [roV z l.length (flatE eventE l), roV z2 ties.length (flatE tieE ties)] []) := by
  by_cases hne : l = []
  · subst hne
    have ht : ties = [] := by
      cases ties with
      | nil => rfl
      | cons t ts => have := hr.tie t (by simp); simp at this; omega
    subst ht
    have hc : closed (nV []) (bds [] []) = some (phase 0 net0) := rfl
    refine ⟨phase 0 net0, ?_, fun d h => by rw [hc] at h; cases h; rfl⟩
    rw [hc]
    exact evF_mono (show 60 ≤ k + 1 by omega) _ _ _ _ (solved_nil z z2)
  · exact solved_ne l ties z z2 hr hne hk

def pairE : Enc (Int × Int) := ⟨fun p => [.int .i64 p.1, .int .i64 p.2], 2, fun _ => rfl, fun a v h => by simp at h; rcases h with h | h <;> subst h <;> rfl⟩
instance : pairE.Own := ⟨fun _ => rfl, fun _ => rfl⟩
@[simp] theorem pairE_k : pairE.k = 2 := rfl
theorem pairE_f (p : Int × Int) : pairE.f p = [.int .i64 p.1, .int .i64 p.2] := rfl
def ivs (d : Mat) (a c : Nat) : List (Int × Int) := (List.range c).map fun i => (- d (a + i) 0, d 0 (a + i))
@[simp] theorem ivs_length (d : Mat) (a c : Nat) : (ivs d a c).length = c := by simp [ivs]
@[simp] theorem ivs_zero (d : Mat) (a : Nat) : ivs d a 0 = [] := rfl
theorem ivs_succ (d : Mat) (a c : Nat) : ivs d a (c + 1) = ivs d a c ++ [(- d (a + c) 0, d 0 (a + c))] := by simp [ivs, List.range_succ]
theorem bldP (x y : Int) : buildV Try.prog 44 [(0, V.int .i64 x), (1, V.int .i64 y)] = some (.agg [.int .i64 x, .int .i64 y]) := by kernel_rfl
end Go.Ev.Try

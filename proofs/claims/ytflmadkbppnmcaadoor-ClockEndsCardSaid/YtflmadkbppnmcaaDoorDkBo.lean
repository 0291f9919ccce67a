/-
  THE CLOCK DOOR SEAT (printed by wip/tools/port.py): a solution by the bounds, plain law (own work).
-/
import Derived.Test.YtflmadkbppnmcaaDoorDkBm
set_option linter.unusedSimpArgs false
set_option linter.unusedVariables false
namespace Go.Ev.Tryd
open Go Go.Ev

def okW (v : Int) : Bool := decide (-4294967295 ≤ v) && decide (v ≤ 4294967295)
def chk (X : List Int) (b : Bd) : Bool := decide (X.getD b.t 0 - X.getD b.f 0 ≤ b.n)
theorem okW_eq (v : Int) : okW v = okR v := by
  unfold okW okR
  by_cases h1 : v < -4294967295 <;> by_cases h2 : 4294967295 < v <;> simp [h1, h2] <;> omega
theorem chk_pair (X : List Int) (i j : Nat) (lo hi : Int) : (pair i j lo hi).all (chk X) = !(decide (X.getD j 0 - X.getD i 0 < lo) || decide (hi < X.getD j 0 - X.getD i 0)) := by
  simp only [pair, List.all_cons, List.all_nil, Bool.and_true, chk]
  generalize X.getD j 0 = u
  generalize X.getD i 0 = v
  by_cases h1 : u - v < lo <;> by_cases h2 : hi < u - v <;> simp [h1, h2] <;> omega
theorem all_flatMap' {α β : Type} (f : β → Bool) (g : α → List β) : ∀ L : List α, (L.flatMap g).all f = L.all fun a => (g a).all f
  | [] => rfl
  | a :: L => by simp [List.flatMap_cons, all_flatMap' f g L]
theorem all_congr {α : Type} {f g : α → Bool} {L : List α} (h : ∀ a ∈ L, f a = g a) : L.all f = L.all g := by
  induction L with
  | nil => rfl
  | cons a L ih => simp only [List.all_cons, h a (by simp), ih fun b hb => h b (by simp [hb])]
theorem want_eq {l : List Event} {ties : List Tie} {E T : List Int} (hr : Right l ties) (hE : E.length = nC l) (hT : T.length = l.length) :
    ((0 :: (E ++ T)).all okW && (bds l ties).all (chk (0 :: (E ++ T)))) = holdsB l ties E T := by
  have h0 : (0 :: (E ++ T)).all okW = (E ++ T).all okR := by
    rw [List.all_cons]
    have : okW 0 = true := rfl
    rw [this, Bool.true_and]
    exact all_congr fun a _ => okW_eq a
  rw [h0]
  unfold holdsB
  cases hA : (E ++ T).all okR with
  | false => rfl
  | true =>
    rw [Bool.true_and, Bool.true_and]
    have x0 : (0 :: (E ++ T)).getD 0 0 = 0 := rfl
    have xs : ∀ q, (0 :: (E ++ T)).getD (q + 1) 0 = (E ++ T).getD q 0 := fun q => rfl
    have xE : ∀ q, q < nC l → (0 :: (E ++ T)).getD (1 + q) 0 = E.getD q 0 := fun q h => by
      rw [Nat.add_comm, xs, List.getD_eq_getElem?_getD, List.getD_eq_getElem?_getD, List.getElem?_append_left (by omega)]
    have xT : ∀ q, (0 :: (E ++ T)).getD (1 + nC l + q) 0 = T.getD q 0 := fun q => by
      rw [show 1 + nC l + q = (nC l + q) + 1 by omega, xs, List.getD_eq_getElem?_getD, List.getD_eq_getElem?_getD, List.getElem?_append_right (by omega), hE]
      congr 2; omega
    have rng : ∀ q, q < (E ++ T).length → -4294967295 ≤ (E ++ T).getD q 0 ∧ (E ++ T).getD q 0 ≤ 4294967295 := fun q h => by
      have := List.all_eq_true.1 hA (E ++ T)[q] (List.getElem_mem h)
      rw [List.getD_eq_getElem?_getD, List.getElem?_eq_getElem h]
      simp [okR] at this
      show -4294967295 ≤ (E ++ T)[q] ∧ (E ++ T)[q] ≤ 4294967295
      omega
    have hXl : (E ++ T).length = nC l + l.length := by rw [List.length_append]; omega
    unfold bds
    rw [List.all_append, List.all_append]
    have b0 : (bd0 (nC l + l.length)).all (chk (0 :: (E ++ T))) = true := by
      unfold bd0
      rw [all_flatMap', List.all_eq_true]
      intro q hq
      rw [chk_pair, xs, x0]
      have := rng q (by rw [hXl]; exact List.mem_range.1 hq)
      generalize (E ++ T).getD q 0 = v at *
      have h1 : ¬ v - 0 < -4294967295 := by omega
      have h2 : ¬ 4294967295 < v - 0 := by omega
      simp only [decide_eq_false h1, decide_eq_false h2]; rfl
    have b1 : (bdE l l.length).all (chk (0 :: (E ++ T))) = (List.range l.length).all (okE l E T) := by
      unfold bdE
      rw [all_flatMap']
      refine all_congr fun i hi => ?_
      have hil := List.mem_range.1 hi
      have hld : l.getD i default = l[i] := by rw [List.getD_eq_getElem?_getD, List.getElem?_eq_getElem hil]; rfl
      unfold evB okE diffE
      rw [List.getElem?_eq_getElem hil, hld]
      simp only
      rw [chk_pair, xT, xE _ (ix_lt (List.getElem_mem hil))]
    have b2 : (bdT (nC l) ties).all (chk (0 :: (E ++ T))) = ties.all (okT T) := by
      unfold bdT
      rw [all_flatMap']
      refine all_congr fun t ht => ?_
      have h := hr.tie t ht
      unfold tieB
      rw [chk_pair]
      have e2 : (0 :: (E ++ T)).getD (atV (nC l) t.b) 0 = T.getD t.b.toNat 0 := by
        unfold atV; rw [if_neg (by omega), xT]
      rw [e2]
      unfold okT diffT atV
      by_cases ha : t.a < 0
      · rw [if_pos ha, if_pos ha, x0, Int.sub_zero]
      · rw [if_neg ha, if_neg ha, xT]
    rw [b0, b1, b2, Bool.true_and]
end Go.Ev.Tryd

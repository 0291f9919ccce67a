/-
  THE CLOCK DOOR SEAT (printed by wip/tools/port.py): the culprits, plain law (own work).
-/
import Derived.Test.YtflmadkbppnmcaaDoorDkBh
set_option linter.unusedSimpArgs false
set_option linter.unusedVariables false
namespace Go.Ev.Tryd
open Go Go.Ev

def tieAt (ties : List Tie) (i : Nat) : Tie := ties.getD i default
def restT (ties : List Tie) (acc : List Nat) (p : Nat) : List Tie := (acc ++ List.range' (p + 1) (ties.length - (p + 1))).map (tieAt ties)
def feas (l : List Event) (ties : List Tie) : Bool := (closed (nV l) (bds l ties)).isSome
def chosen (l : List Event) (ties : List Tie) : Nat → List Nat
  | 0 => []
  | p + 1 => if feas l (restT ties (chosen l ties p) p) = true then chosen l ties p ++ [p] else chosen l ties p
def keepB (l : List Event) (ties : List Tie) (q : Nat) : Bool := feas l (restT ties (chosen l ties q) q)
theorem chosen_filter (l : List Event) (ties : List Tie) : ∀ p, chosen l ties p = (List.range p).filter (keepB l ties)
  | 0 => rfl
  | p + 1 => by
    rw [chosen, List.range_succ, List.filter_append, ← chosen_filter l ties p]
    show (if keepB l ties p = true then _ else _) = _
    cases h : keepB l ties p <;> simp [h]
theorem chosen_lt (l : List Event) (ties : List Tie) (p : Nat) : ∀ q ∈ chosen l ties p, q < p := fun q hq => by
  rw [chosen_filter] at hq
  exact List.mem_range.1 (List.mem_filter.1 hq).1
theorem chosen_len (l : List Event) (ties : List Tie) (p : Nat) : (chosen l ties p).length ≤ p := by
  rw [chosen_filter]; exact Nat.le_trans (List.length_filter_le _ _) (by simp)
/-- What is left at step p. -/
def kept (l : List Event) (ties : List Tie) (p : Nat) : List Nat := chosen l ties p ++ List.range' p (ties.length - p)
theorem kept_split (l : List Event) (ties : List Tie) (p : Nat) (h : p < ties.length) : kept l ties p = chosen l ties p ++ p :: List.range' (p + 1) (ties.length - (p + 1)) := by
  unfold kept
  rw [show ties.length - p = (ties.length - (p + 1)) + 1 by omega, List.range'_succ]
theorem kept_yes (l : List Event) (ties : List Tie) (p : Nat) (h : p < ties.length) (hf : keepB l ties p = true) : kept l ties (p + 1) = kept l ties p ∧ (chosen l ties (p + 1)).length = (chosen l ties p).length + 1 := by
  have : chosen l ties (p + 1) = chosen l ties p ++ [p] := by rw [chosen]; exact if_pos hf
  refine ⟨?_, by rw [this]; simp⟩
  rw [kept_split l ties p h]
  unfold kept
  rw [this]; simp
theorem kept_no (l : List Event) (ties : List Tie) (p : Nat) (h : p < ties.length) (hf : keepB l ties p = false) : kept l ties (p + 1) = (kept l ties p).eraseIdx (chosen l ties p).length ∧ chosen l ties (p + 1) = chosen l ties p := by
  have hc : chosen l ties (p + 1) = chosen l ties p := by rw [chosen]; exact if_neg (by show ¬ keepB l ties p = true; rw [hf]; simp)
  refine ⟨?_, hc⟩
  rw [kept_split l ties p h, List.eraseIdx_append_of_length_le (Nat.le_refl _)]
  unfold kept
  rw [hc]; simp
theorem kept_rest (l : List Event) (ties : List Tie) (p : Nat) (h : p < ties.length) : ((kept l ties p).eraseIdx (chosen l ties p).length).map (tieAt ties) = restT ties (chosen l ties p) p := by
  rw [kept_split l ties p h, List.eraseIdx_append_of_length_le (Nat.le_refl _)]
  unfold restT; simp
theorem kept_len (l : List Event) (ties : List Tie) (p : Nat) : (kept l ties p).length = (chosen l ties p).length + (ties.length - p) := by simp [kept]
theorem kept_lt (l : List Event) (ties : List Tie) (p : Nat) (hp : p ≤ ties.length) : ∀ q ∈ kept l ties p, q < ties.length := fun q hq => by
  rcases List.mem_append.1 hq with h | h
  · have := chosen_lt l ties p q h; omega
  · have := List.mem_range'_1.1 h; omega
theorem tieAt_mem {ties : List Tie} {i : Nat} (h : i < ties.length) : tieAt ties i = ties[i] := by
  unfold tieAt; rw [List.getD_eq_getElem?_getD, List.getElem?_eq_getElem h]; rfl
theorem right_map {l : List Event} {ties : List Tie} (hr : Right l ties) {is : List Nat} (h : ∀ i ∈ is, i < ties.length) (hn : is.length ≤ 80) : Right l (is.map (tieAt ties)) :=
  hr.sub (fun t ht => by
    obtain ⟨i, hi, rfl⟩ := List.mem_map.1 ht
    rw [tieAt_mem (h i hi)]; exact List.getElem_mem _) (by simpa using hn)
/-- One more of those that stay. -/
theorem erase_take {α : Type} (L : List α) (i j : Nat) (hj : j < L.length) : (L.take (j + 1)).eraseIdx i = if j = i then (L.take j).eraseIdx i else (L.take j).eraseIdx i ++ [L[j]] := by
  rw [List.take_succ_eq_append_getElem hj]
  have hl : (L.take j).length = j := by simp; omega
  split
  · rename_i h
    subst h
    rw [List.eraseIdx_append_of_length_le (by omega), hl, Nat.sub_self, List.eraseIdx_of_length_le (l := L.take j) (by omega)]; simp
  · rename_i h
    rcases Nat.lt_or_ge i j with h2 | h2
    · rw [List.eraseIdx_append_of_lt_length (by omega)]
    · rw [List.eraseIdx_of_length_le (by simp; omega), List.eraseIdx_of_length_le (by omega)]
def castL (l : List Nat) : List Int := l.map fun (i : Nat) => (i : Int)
@[simp] theorem castL_length (l : List Nat) : (castL l).length = l.length := by simp [castL]
theorem castL_erase (l : List Nat) (i : Nat) : (castL l).eraseIdx i = castL (l.eraseIdx i) := by
  unfold castL; rw [List.eraseIdx_eq_take_drop_succ, List.eraseIdx_eq_take_drop_succ, List.map_append, List.map_take, List.map_drop]
theorem castL_range_succ (q : Nat) : castL (List.range (q + 1)) = castL (List.range q) ++ [(q : Int)] := by simp [castL, List.range_succ]
end Go.Ev.Tryd

import Derived.Test.YtflmadkbppnmcaaCkT
set_option linter.unusedSimpArgs false
set_option linter.unusedVariables false
set_option maxRecDepth 100000
set_option maxHeartbeats 4000000
namespace Go.Ev.Try
open Go Go.Ev Go.Proofs
def outP (n i : Nat) : List V := (List.range i).map (fun a => V.sl (3 + a) 0 n 1) ++ List.replicate (n - i) V.nils
structure PG (B0 B1 : Option Blk) (n i : Nat) (f : Mat) (H : Heap) : Prop where
  b0 : H[0]? = some B0
  b1 : H[1]? = some B1
  out : H[2]? = some (some (.cells (outP n i) true))
  row : ∀ a, a < i → H[3 + a]? = some (rowB n (f a))
  len : H.length = 3 + i
theorem outP_length {n i : Nat} (h : i ≤ n) : (outP n i).length = n := by simp [outP]; omega
theorem outP_zero (n : Nat) : outP n 0 = List.replicate n V.nils := by simp [outP]
theorem outP_all (n : Nat) : outP n n = outC 3 n := by simp [outP, outC]
theorem outP_set {n i : Nat} (h : i < n) : (outP n i).take i ++ V.sl (3 + i) 0 n 1 :: (outP n i).drop (i + 1) = outP n (i + 1) := by
  unfold outP
  rw [List.take_left' (by simp), List.drop_append]
  simp only [List.length_map, List.length_range, List.range_succ, List.map_append, List.map_cons, List.map_nil]
  rw [List.drop_of_length_le (by simp), List.nil_append, List.drop_replicate]
  have : n - i - (i + 1 - i) = n - (i + 1) := by omega
  rw [this]; simp
theorem outP_drop {n i : Nat} (h : i < n) : ∃ l, (outP n (i + 1)).drop i = V.sl (3 + i) 0 n 1 :: l := by
  unfold outP
  rw [List.range_succ, List.map_append, List.append_assoc, List.drop_left' (by simp)]
  exact ⟨_, rfl⟩
theorem zeros_int (n : Nat) : zerosV [V.int .i64 0] n = rowC n (fun _ => 0) := by
  have : ∀ n, zerosV [V.int .i64 0] n = List.replicate n (V.int .i64 0) := by
    intro n
    induction n with
    | zero => rfl
    | succ n ih => rw [zerosV, ih]; rfl
  rw [this, rowC, List.map_const']; simp
theorem zeros_nils (n : Nat) : zerosV [V.nils] n = outP n 0 := by
  rw [outP_zero]
  induction n with
  | zero => rfl
  | succ n ih => rw [zerosV, ih]; rfl
theorem PG.next {B0 B1 : Option Blk} {n i : Nat} {f : Mat} {H : Heap} (h : PG B0 B1 n i f H) (g : Nat → Int) :
    PG B0 B1 n (i + 1) (fun a => if a = i then g else f a) ((H ++ [rowB n g]).set 2 (some (.cells (outP n (i + 1)) true))) := by
  have hl := h.len
  have h0 : 0 < H.length := by omega
  have h1 : 1 < H.length := by omega
  have h2 : 2 < H.length := by omega
  refine ⟨?_, ?_, ?_, fun a ha => ?_, by simp [hl]; omega⟩
  · rw [List.getElem?_set_ne (by omega), List.getElem?_append_left h0]; exact h.b0
  · rw [List.getElem?_set_ne (by omega), List.getElem?_append_left h1]; exact h.b1
  · rw [List.getElem?_set_self (by simp; omega)]
  · rw [List.getElem?_set_ne (by omega)]
    by_cases hai : a = i
    · subst hai
      rw [← hl, List.getElem?_append_right (Nat.le_refl _)]; simp
    · rw [List.getElem?_append_left (by omega), if_neg hai]
      exact h.row a (by omega)
theorem PG.set_row {B0 B1 : Option Blk} {n i : Nat} {f : Mat} {H : Heap} (h : PG B0 B1 n i f H) {a : Nat} (ha : a < i) (g : Nat → Int) :
    PG B0 B1 n i (fun x => if x = a then g else f x) (H.set (3 + a) (rowB n g)) := by
  have hl := h.len
  refine ⟨?_, ?_, ?_, fun b hb => ?_, by simpa using hl⟩
  · rw [List.getElem?_set_ne (by omega)]; exact h.b0
  · rw [List.getElem?_set_ne (by omega)]; exact h.b1
  · rw [List.getElem?_set_ne (by omega)]; exact h.out
  · by_cases e : b = a
    · subst e; rw [List.getElem?_set_self (by omega)]; simp
    · rw [List.getElem?_set_ne (by omega), if_neg e]; exact h.row b hb
theorem PG.congr {B0 B1 : Option Blk} {n i : Nat} {f g : Mat} {H : Heap} (h : PG B0 B1 n i f H) (e : ∀ a b, a < i → b < n → f a b = g a b) : PG B0 B1 n i g H :=
  ⟨h.b0, h.b1, h.out, fun a ha => by rw [h.row a ha]; simp only [rowB]; rw [rowC_congr fun b hb => e a b ha hb], h.len⟩
theorem PG.grid {B0 B1 : Option Blk} {n : Nat} {f : Mat} {H : Heap} (h : PG B0 B1 n n f H) : Grid H 2 3 n f := ⟨by omega, by rw [h.out, outP_all], h.row⟩
def fb (i j : Nat) : Mat := fun a => if a = i then (fun b => if b < j then 17179869180 else 0) else net0 a
def rowF (n j : Nat) (f : Nat → Int) (v : Int) : Option Blk := some (.cells ((rowC n f).take j ++ V.int .i64 v :: (rowC n f).drop (j + 1)) true)
theorem rowF_eq {n j : Nat} (h : j < n) (f : Nat → Int) (v : Int) : rowF n j f v = rowB n (fun a => if a = j then v else f a) := by
  unfold rowF; rw [rowC_set _ h]; rfl
theorem PG.fb_next {B0 B1 : Option Blk} {n i j : Nat} {H : Heap} (h : PG B0 B1 n (i + 1) (fb i j) H) (hj : j < n) : PG B0 B1 n (i + 1) (fb i (j + 1)) (H.set (3 + i) (rowF n j (fb i j i) 17179869180)) := by
  rw [rowF_eq hj]
  refine (h.set_row (by omega) _).congr fun a b ha hb => ?_
  simp only [fb]
  by_cases e : a = i
  · subst e
    simp only [if_true]
    by_cases e2 : b = j
    · subst e2; simp
    · rw [if_neg e2]
      by_cases e3 : b < j
      · rw [if_pos e3, if_pos (by omega)]
      · rw [if_neg e3, if_neg (by omega)]
  · simp [e]
theorem PG.fb_end {B0 B1 : Option Blk} {n i : Nat} {H : Heap} (h : PG B0 B1 n (i + 1) (fb i n) H) (hi : i < n) : PG B0 B1 n (i + 1) net0 (H.set (3 + i) (rowF n i (fb i n i) 0)) := by
  rw [rowF_eq hi]
  refine (h.set_row (by omega) _).congr fun a b ha hb => ?_
  by_cases e : a = i
  · subst e
    simp only [if_true, fb, net0]
    by_cases e2 : b = a
    · subst e2; simp
    · rw [if_neg e2, if_pos hb, if_neg (fun h => e2 h.symm)]
  · simp [e, fb]
structure Side (H : Heap) (B0 B1 : Option Blk) (n : Nat) (d : Mat) : Prop where
  b0 : H[0]? = some B0
  b1 : H[1]? = some B1
  grid : Grid H 2 3 n d
theorem Side.len {H : Heap} {B0 B1 : Option Blk} {n : Nat} {d : Mat} (h : Side H B0 B1 n d) : 2 < H.length := h.grid.lto
theorem Side.app {H : Heap} {B0 B1 : Option Blk} {n : Nat} {d : Mat} (h : Side H B0 B1 n d) (E : Heap) : Side (H ++ E) B0 B1 n d := by
  have := h.len
  exact ⟨by rw [List.getElem?_append_left (by omega)]; exact h.b0, by rw [List.getElem?_append_left (by omega)]; exact h.b1, h.grid.app E⟩
theorem Side.lim {H : Heap} {B0 B1 : Option Blk} {n : Nat} {d : Mat} (h : Side H B0 B1 n d) : ∀ x ∈ idsG 2 3 n, x < H.length := fun x hx => by
  rcases List.mem_cons.1 hx with rfl | hx
  · exact h.len
  · obtain ⟨i, hi, rfl⟩ := List.mem_map.1 hx
    exact h.grid.lt (List.mem_range.1 hi)
theorem between_in {H : Heap} {B0 B1 : Option Blk} {n : Nat} {d : Mat} (h : Side H B0 B1 n d) (hn : n < 1000) {i j : Nat} (hi : i < n) (hj : j < n) (lo up : Int) (hlo : -9223372036854775807 ≤ lo ∧ lo ≤ 9223372036854775807) {k : Nat} (hk : 0 < k) :
    ∃ H', callWide (evF Try.prog Γ (k + 1)) H 76 [.sl 2 0 n 1, .int .i64 i, .int .i64 j, .int .i64 lo, .int .i64 up] = some (V.tup [], H') ∧ Side H' B0 B1 n (matOf d (pair i j lo up)) := by
  obtain ⟨H', c, g, hl, ho⟩ := callWide_grid (call := evF Try.prog Γ (k + 1)) (xs := [.int .i64 i, .int .i64 j, .int .i64 lo, .int .i64 up]) h.grid hn rfl (fun _ => rfl) (fun _ => rfl) (between_ok hn d hi hj lo up hlo hk)
  have := h.len
  exact ⟨H', c, by rw [ho 0 (by omega) (by omega) (by omega)]; exact h.b0, by rw [ho 1 (by omega) (by omega) (by omega)]; exact h.b1, g⟩
theorem finish_out {H : Heap} {o b n : Nat} {d : Mat} (g : Grid H o b n d) (hn : n < 1000) : finish 0 H (.sl o 0 n 1) = (.sl 0 0 n 1, gridH n d) := by
  unfold finish
  have hp : place 0 H fuelR (rootLeaves 0 H ++ (V.sl o 0 n 1).leaves) [] = idsG o b n := g.place hn (Nat.zero_le _)
  simp only [hp, g.keep]
  congr 1
  simp [indexIn_o]
end Go.Ev.Try

/-
  THE CLOCK DOOR SEAT (printed by wip/tools/port.py), plain law: closing a net of differences (Floyd and Warshall), and using bounds until nothing changes (Bellman and Ford), told by their solutions (own work).
-/
import Derived.Test.YtflmadkbppnmcaaDoorDkP
set_option linter.unusedSimpArgs false
set_option linter.unusedVariables false
namespace Go.Ev.Tryd
open Go Go.Ev

/-- Variable t is at most n greater than variable f. -/
structure Bd where
  f : Nat
  t : Nat
  n : Int
def upd {α : Type} (g : Nat → α) (i : Nat) (v : α) : Nat → α := fun j => if j = i then v else g j
@[simp] theorem upd_same {α : Type} (g : Nat → α) (i : Nat) (v : α) : upd g i v i = v := by simp [upd]
abbrev Mat := Nat → Nat → Int
def upd2 (d : Mat) (i j : Nat) (v : Int) : Mat := fun a b => if a = i ∧ b = j then v else d a b

/-- A solution of bounds; of a net of n variables. -/
def Sol (L : List Bd) (x : Nat → Int) : Prop := ∀ b ∈ L, x b.t - x b.f ≤ b.n
def SolM (n : Nat) (d : Mat) (x : Nat → Int) : Prop := ∀ i j, i < n → j < n → x j - x i ≤ d i j

/-! ### The net closed -/
def phase (k : Nat) (d : Mat) : Mat := fun a b => min (d a b) (d a k + d k b)
def fw (n : Nat) (D : Mat) : Nat → Option Mat
  | 0 => some D
  | k + 1 => match fw n D k with
    | some d => if (List.range n).all (fun i => decide (0 ≤ phase k d i i)) = true then some (phase k d) else none
    | none => none
theorem fw_none {n : Nat} {D : Mat} {k : Nat} (h : fw n D k = none) : ∀ m, k ≤ m → fw n D m = none := by
  intro m hm
  induction m with
  | zero => obtain rfl : k = 0 := by omega
            exact h
  | succ m ih =>
    rcases Nat.lt_or_ge k (m + 1) with hk | hk
    · rw [fw, ih (by omega)]
    · obtain rfl : k = m + 1 := by omega
      exact h
structure Inv1 (n : Nat) (D : Mat) (k : Nat) (d : Mat) : Prop where
  diag : ∀ i, i < n → 0 ≤ d i i
  diag0 : ∀ i, i < n → d i i ≤ D i i
  le : ∀ i j, i < n → j < n → d i j ≤ D i j
  sol : ∀ x, SolM n D x → SolM n d x
  tri : ∀ i j p, i < n → j < n → p < k → d i j ≤ d i p + d p j
  from_ : ∀ i j, i < n → j < n → D i j ≤ d i j ∨ ∃ p, p < k ∧ d i p + d p j ≤ d i j
theorem fw_inv {n : Nat} {D : Mat} (h0 : ∀ i, i < n → 0 ≤ D i i) : ∀ k, k ≤ n → ∀ d, fw n D k = some d → Inv1 n D k d
  | 0, _, d, h => by
    cases h
    exact ⟨h0, fun _ _ => Int.le_refl _, fun _ _ _ _ => Int.le_refl _, fun _ h => h, fun _ _ _ _ _ h => by omega, fun _ _ _ _ => .inl (Int.le_refl _)⟩
  | k + 1, hk, d', h => by
    rw [fw] at h
    cases hd : fw n D k with
    | none => rw [hd] at h; cases h
    | some d =>
      rw [hd] at h
      simp only at h
      split at h
      · rename_i hall
        cases h
        have ih := fw_inv h0 k (by omega) d hd
        have hkk := ih.diag k (by omega)
        refine ⟨fun i hi => by simpa using List.all_eq_true.1 hall i (List.mem_range.2 hi), fun i hi => Int.le_trans (Int.min_le_left _ _) (ih.diag0 i hi), fun i j hi hj => Int.le_trans (Int.min_le_left _ _) (ih.le i j hi hj), fun x hx i j hi hj => ?_, fun i j p hi hj hp => ?_, fun i j hi hj => ?_⟩
        · have h1 := ih.sol x hx i j hi hj
          have h2 := ih.sol x hx i k hi (by omega)
          have h3 := ih.sol x hx k j (by omega) hj
          simp only [phase]
          omega
        · simp only [phase]
          rcases Nat.lt_or_ge p k with hpk | hpk
          · have t1 := ih.tri i j p hi hj hpk
            have t2 := ih.tri i k p hi (by omega) hpk
            have t3 := ih.tri k j p (by omega) hj hpk
            have t4 := ih.tri k k p (by omega) (by omega) hpk
            omega
          · obtain rfl : p = k := by omega
            omega
        · simp only [phase]
          rcases Int.le_total (d i j) (d i k + d k j) with hm | hm
          · rw [Int.min_eq_left hm]
            rcases ih.from_ i j hi hj with h1 | ⟨p, hp, h1⟩
            · exact .inl h1
            · exact .inr ⟨p, by omega, by omega⟩
          · rw [Int.min_eq_right hm]
            exact .inr ⟨k, by omega, by omega⟩
      · cases h
/-- What is closed: no diagonal is below zero, it goes by the triangle, and its solutions are those of the net. -/
theorem fw_some {n : Nat} {D d : Mat} (h0 : ∀ i, i < n → 0 ≤ D i i) (h : fw n D n = some d) : Inv1 n D n d := fw_inv h0 n (Nat.le_refl _) d h
theorem fw_no {n : Nat} {D : Mat} (h0 : ∀ i, i < n → 0 ≤ D i i) : ∀ k, k ≤ n → fw n D k = none → ∀ x, ¬ SolM n D x
  | 0, _, h => by cases h
  | k + 1, hk, h => by
    intro x hx
    rw [fw] at h
    cases hd : fw n D k with
    | none => exact fw_no h0 k (by omega) hd x hx
    | some d =>
      rw [hd] at h
      simp only at h
      split at h
      · cases h
      · rename_i hall
        have ih := fw_inv h0 k (by omega) d hd
        refine hall (List.all_eq_true.2 fun i hi => decide_eq_true ?_)
        have hi' := List.mem_range.1 hi
        have h1 := ih.sol x hx i k hi' (by omega)
        have h2 := ih.sol x hx k i (by omega) hi'
        have h3 := ih.diag i hi'
        simp only [phase]
        omega
/-- No number grows too large. -/
structure Tame (n : Nat) (D : Mat) : Prop where
  diag : ∀ i, i < n → 0 ≤ D i i
  out : ∀ i, i < n → D 0 i ≤ 4294967295
  back : ∀ i, i < n → D i 0 ≤ 4294967295
  low : ∀ i j, i < n → j < n → -8589934590 ≤ D i j
  high : ∀ i j, i < n → j < n → D i j ≤ 17179869180
theorem fw_tame {n : Nat} {D : Mat} (t : Tame n D) {k : Nat} (hk : k ≤ n) {d : Mat} (h : fw n D k = some d) : ∀ i j, i < n → j < n → -17179869180 ≤ d i j ∧ d i j ≤ 17179869180 := by
  have iv := fw_inv t.diag k hk d h
  intro i j hi hj
  refine ⟨?_, Int.le_trans (iv.le i j hi hj) (t.high i j hi hj)⟩
  rcases iv.from_ i j hi hj with h1 | ⟨p, hp, h1⟩
  · have := t.low i j hi hj; omega
  · have s1 := iv.tri i 0 p hi (by omega) hp
    have s2 := iv.tri 0 j p (by omega) hj hp
    have s3 := iv.tri i i 0 hi hi (by omega)
    have s4 := iv.tri j j 0 hj hj (by omega)
    have s5 := iv.diag i hi
    have s6 := iv.diag j hj
    have a1 := Int.le_trans (iv.le p 0 (by omega) (by omega)) (t.back p (by omega))
    have a2 := Int.le_trans (iv.le 0 p (by omega) (by omega)) (t.out p (by omega))
    have a3 := Int.le_trans (iv.le 0 i (by omega) hi) (t.out i hi)
    have a4 := Int.le_trans (iv.le j 0 hj (by omega)) (t.back j hj)
    omega

/-! ### A net of bounds -/
def matOf (init : Mat) (L : List Bd) : Mat := L.foldl (fun D b => upd2 D b.f b.t (min (D b.f b.t) b.n)) init
theorem matOf_cons (init : Mat) (b : Bd) (L : List Bd) : matOf init (b :: L) = matOf (upd2 init b.f b.t (min (init b.f b.t) b.n)) L := rfl
theorem matOf_le (init : Mat) : ∀ (L : List Bd) (init : Mat) (i j : Nat), matOf init L i j ≤ init i j
  | [], init, i, j => Int.le_refl _
  | b :: L, init, i, j => by
    rw [matOf_cons]
    refine Int.le_trans (matOf_le init L _ i j) ?_
    simp only [upd2]
    split
    · rename_i h; rw [← h.1, ← h.2]; exact Int.min_le_left _ _
    · exact Int.le_refl _
theorem matOf_mem : ∀ (L : List Bd) (init : Mat) (b : Bd), b ∈ L → matOf init L b.f b.t ≤ b.n
  | c :: L, init, b, h => by
    rw [matOf_cons]
    rcases List.mem_cons.1 h with rfl | h
    · refine Int.le_trans (matOf_le init L _ _ _) ?_
      simp only [upd2, and_self, if_true]
      exact Int.min_le_right _ _
    · exact matOf_mem L _ b h
theorem matOf_from : ∀ (L : List Bd) (init : Mat) (i j : Nat), matOf init L i j = init i j ∨ ∃ b ∈ L, b.f = i ∧ b.t = j ∧ matOf init L i j = b.n
  | [], init, i, j => .inl rfl
  | c :: L, init, i, j => by
    rw [matOf_cons]
    rcases matOf_from L (upd2 init c.f c.t (min (init c.f c.t) c.n)) i j with h | ⟨b, hb, h1, h2, h3⟩
    · rw [h]
      simp only [upd2]
      split
      · rename_i hc
        obtain ⟨rfl, rfl⟩ := hc
        rcases Int.le_total (init c.f c.t) c.n with hm | hm
        · rw [Int.min_eq_left hm]; exact .inl rfl
        · rw [Int.min_eq_right hm]; exact .inr ⟨c, by simp, rfl, rfl, rfl⟩
      · exact .inl rfl
    · exact .inr ⟨b, by simp [hb], h1, h2, h3⟩
/-- What is said of bounds: their places, and each variable is bound to the first one in both directions. -/
structure Fit (n : Nat) (L : List Bd) : Prop where
  pos : 0 < n
  at_ : ∀ b ∈ L, b.f < n ∧ b.t < n
  loop : ∀ b ∈ L, b.f = b.t → 0 ≤ b.n
  lo : ∀ b ∈ L, -8589934590 ≤ b.n
  hi : ∀ b ∈ L, b.n ≤ 8589934590
  out : ∀ i, 0 < i → i < n → ⟨0, i, 4294967295⟩ ∈ L
  back : ∀ i, 0 < i → i < n → ⟨i, 0, 4294967295⟩ ∈ L
def net0 : Mat := fun i j => if i = j then 0 else 17179869180
theorem Fit.tame {n : Nat} {L : List Bd} (h : Fit n L) : Tame n (matOf net0 L) where
  diag i hi := by
    rcases matOf_from L net0 i i with h1 | ⟨b, hb, h1, h2, h3⟩
    · rw [h1]; simp [net0]
    · rw [h3]; exact h.loop b hb (by omega)
  out i hi := by
    rcases Nat.eq_zero_or_pos i with rfl | hp
    · refine Int.le_trans (matOf_le net0 L net0 0 0) ?_; simp [net0]
    · exact matOf_mem L net0 _ (h.out i hp hi)
  back i hi := by
    rcases Nat.eq_zero_or_pos i with rfl | hp
    · refine Int.le_trans (matOf_le net0 L net0 0 0) ?_; simp [net0]
    · exact matOf_mem L net0 _ (h.back i hp hi)
  low i j hi hj := by
    rcases matOf_from L net0 i j with h1 | ⟨b, hb, h1, h2, h3⟩
    · rw [h1]; simp only [net0]; split <;> omega
    · rw [h3]; exact h.lo b hb
  high i j hi hj := by
    refine Int.le_trans (matOf_le net0 L net0 i j) ?_
    simp only [net0]; split <;> omega
theorem sol_mat {n : Nat} {L : List Bd} (h : Fit n L) (x : Nat → Int) : SolM n (matOf net0 L) x ↔ Sol L x := by
  constructor
  · intro hs b hb
    exact Int.le_trans (hs b.f b.t (h.at_ b hb).1 (h.at_ b hb).2) (matOf_mem L net0 b hb)
  · intro hs i j hi hj
    rcases matOf_from L net0 i j with h1 | ⟨b, hb, h1, h2, h3⟩
    · rw [h1]
      simp only [net0]
      have b1 : ∀ i, i < n → x i - x 0 ≤ 4294967295 := fun i hi => by
        rcases Nat.eq_zero_or_pos i with rfl | hp
        · omega
        · exact hs _ (h.out i hp hi)
      have b2 : ∀ i, i < n → x 0 - x i ≤ 4294967295 := fun i hi => by
        rcases Nat.eq_zero_or_pos i with rfl | hp
        · omega
        · exact hs _ (h.back i hp hi)
      have := b1 j hj
      have := b2 i hi
      split
      · rename_i e; subst e; omega
      · omega
    · rw [h3, ← h1, ← h2]; exact hs b hb

/-- The closed net of bounds. -/
def closed (n : Nat) (L : List Bd) : Option Mat := fw n (matOf net0 L) n
/-- WHAT A CLOSED NET SAYS: no solution has more than its numbers, and each of its rows is a solution. -/
structure Clo (n : Nat) (L : List Bd) (d : Mat) : Prop where
  most : ∀ x, Sol L x → ∀ i j, i < n → j < n → x j - x i ≤ d i j
  row : ∀ i, i < n → Sol L (d i)
  diag : ∀ i, i < n → d i i = 0
  tri : ∀ i j p, i < n → j < n → p < n → d i j ≤ d i p + d p j
theorem closed_some {n : Nat} {L : List Bd} (h : Fit n L) {d : Mat} (hc : closed n L = some d) : Clo n L d := by
  have iv := fw_some h.tame.diag hc
  refine ⟨fun x hx => iv.sol x ((sol_mat h x).2 hx), fun i hi b hb => ?_, fun i hi => ?_, fun i j p hi hj hp => iv.tri i j p hi hj hp⟩
  · have a := h.at_ b hb
    have h1 := iv.tri i b.t b.f hi a.2 a.1
    have h2 := iv.le b.f b.t a.1 a.2
    have h3 := matOf_mem L net0 b hb
    omega
  · have h1 := iv.diag i hi
    have h2 := iv.diag0 i hi
    have h3 := matOf_le net0 L net0 i i
    simp only [net0, if_true] at h3
    omega
theorem Clo.bound {n : Nat} {L : List Bd} {d : Mat} (h : Fit n L) (c : Clo n L d) {b : Bd} (hb : b ∈ L) : d b.f b.t ≤ b.n := by
  have h1 := c.row b.f (h.at_ b hb).1 b hb
  have h2 := c.diag b.f (h.at_ b hb).1
  omega
theorem closed_none {n : Nat} {L : List Bd} (h : Fit n L) (hc : closed n L = none) : ∀ x, ¬ Sol L x := fun x hx => fw_no h.tame.diag n (Nat.le_refl _) hc x ((sol_mat h x).2 hx)

/-! ### Bounds used one after the other -/
/-! ### Bounds turned around -/
def turned (L : List Bd) : List Bd := L.map fun b => ⟨b.t, b.f, b.n⟩
theorem Fit.turned {n : Nat} {L : List Bd} (h : Fit n L) : Fit n (turned L) where
  pos := h.pos
  at_ b hb := by obtain ⟨c, hc, rfl⟩ := List.mem_map.1 hb; exact ⟨(h.at_ c hc).2, (h.at_ c hc).1⟩
  loop b hb e := by obtain ⟨c, hc, rfl⟩ := List.mem_map.1 hb; exact h.loop c hc e.symm
  lo b hb := by obtain ⟨c, hc, rfl⟩ := List.mem_map.1 hb; exact h.lo c hc
  hi b hb := by obtain ⟨c, hc, rfl⟩ := List.mem_map.1 hb; exact h.hi c hc
  out i h1 h2 := List.mem_map.2 ⟨_, h.back i h1 h2, rfl⟩
  back i h1 h2 := List.mem_map.2 ⟨_, h.out i h1 h2, rfl⟩
end Go.Ev.Tryd

/-
  THE CLOCK SEAT: the reference's Far (own work).
-/
import Derived.Test.YtflmadkbppnmcaaCkBa
set_option linter.unusedSimpArgs false
set_option linter.unusedVariables false
set_option maxRecDepth 100000
set_option maxHeartbeats 4000000
namespace Go.Ev.Try
open Go Go.Ev Go.Proofs

def boolC (n : Nat) (f : Nat → Bool) : List V := (List.range n).map fun j => .bool (f j)
@[simp] theorem boolC_length (n : Nat) (f : Nat → Bool) : (boolC n f).length = n := by simp [boolC]
theorem boolC_drop {n : Nat} (f : Nat → Bool) {j : Nat} (h : j < n) : (boolC n f).drop j = .bool (f j) :: (boolC n f).drop (j + 1) := by
  rw [List.drop_eq_getElem_cons (by simpa using h)]; simp [boolC]
theorem boolC_set {n : Nat} (f : Nat → Bool) {j : Nat} (h : j < n) (v : Bool) : (boolC n f).take j ++ V.bool v :: (boolC n f).drop (j + 1) = boolC n (upd f j v) := by
  refine List.ext_getElem? fun q => ?_
  rcases Nat.lt_trichotomy q j with hq | hq | hq
  · rw [List.getElem?_append_left (by simp; omega), List.getElem?_take, if_pos hq]
    simp only [boolC, List.getElem?_map]
    cases hr : (List.range n)[q]? with
    | none => rfl
    | some w => have : w = q := by
                  have := List.getElem?_eq_some_iff.1 hr
                  obtain ⟨h1, h2⟩ := this; simpa using h2.symm
                subst this
                simp [upd, show w ≠ j by omega]
  · subst hq
    rw [List.getElem?_append_right (by simp; omega)]
    simp [boolC, h, Nat.min_eq_left (Nat.le_of_lt h), upd]
  · rw [List.getElem?_append_right (by simp; omega)]
    have : q - (List.take j (boolC n f)).length = (q - j - 1) + 1 := by simp; omega
    rw [this, List.getElem?_cons_succ, List.getElem?_drop]
    have e : j + 1 + (q - j - 1) = q := by omega
    rw [e]
    simp only [boolC, List.getElem?_map]
    cases hr : (List.range n)[q]? with
    | none => rfl
    | some w => have : w = q := by
                  have := List.getElem?_eq_some_iff.1 hr
                  obtain ⟨h1, h2⟩ := this; simpa using h2.symm
                subst this
                simp [upd, show w ≠ j by omega]
theorem leavesL_bools (l : List Nat) (f : Nat → Bool) : leavesL (l.map fun j => V.bool (f j)) = [] := by
  induction l with
  | nil => rfl
  | cons a l ih => simp only [List.map_cons, leavesL, V.leaves, ih]; rfl
@[simp] theorem leavesL_boolC (n : Nat) (f : Nat → Bool) : leavesL (boolC n f) = [] := leavesL_bools _ f
theorem refsL_bools (l : List Nat) (f : Nat → Bool) : refsL (l.map fun j => V.bool (f j)) = [] := by
  induction l with
  | nil => rfl
  | cons a l ih => simp only [List.map_cons, refsL, V.refs, ih]; rfl
@[simp] theorem refsL_boolC (n : Nat) (f : Nat → Bool) : refsL (boolC n f) = [] := refsL_bools _ f
@[simp] theorem subL_boolC (hp : Nat → Nat → V) (hs : Nat → Nat → Nat → Nat → V) (hm : Nat → V) (n : Nat) (f : Nat → Bool) : subL hp hs hm (boolC n f) = boolC n f := by
  rw [subL_eq]; simp only [boolC, List.map_map]; rfl
@[simp] theorem renL_boolC (ρ : Nat → Option Nat) (n : Nat) (f : Nat → Bool) : renL ρ (boolC n f) = boolC n f := by
  rw [renL_eq]; simp only [boolC, List.map_map]; rfl
theorem zeros_bool (n : Nat) : zerosV [V.bool false] n = boolC n (fun _ => false) := by
  have : ∀ n, zerosV [V.bool false] n = List.replicate n (V.bool false) := by
    intro n
    induction n with
    | zero => rfl
    | succ n ih => rw [zerosV, ih]; rfl
  rw [this, boolC, List.map_const']; simp
theorem rowC_upd {n : Nat} (f : Nat → Int) {j : Nat} (h : j < n) (v : Int) : (rowC n f).take j ++ V.int .i64 v :: (rowC n f).drop (j + 1) = rowC n (upd f j v) := rowC_set f h v
theorem at_bds (l : List Bd) (i : Nat) (h : i < l.length) : List.take 3 (List.drop (i * 3) (flatE bE l)) = [.int .i64 l[i].f, .int .i64 l[i].t, .int .i64 l[i].n] := at_flatE bE rfl l i h
/-- What Far returns. -/
def farV (n : Nat) : Option (Nat → Int) → Option (V × Heap)
  | some x => some (.tup [.sl 0 0 n 1, .bool true], [some (.cells (rowC n x) true)])
  | none => some (.tup [.nils, .bool false], [none])
def Small (n : Nat) (x : Nat → Int) (c : Nat) : Prop := ∀ i, i < n → -8589934590 * (c : Int) ≤ x i ∧ x i ≤ 8589934590 * (c : Int)
theorem Small.mono {n : Nat} {x : Nat → Int} {c c' : Nat} (h : Small n x c) (hc : c ≤ c') : Small n x c' := fun i hi => by have := h i hi; omega
theorem small_relax {n : Nat} {s : BF} {b : Bd} {c : Nat} (h : Small n s.x c) (hf : b.f < n) (hn : -8589934590 ≤ b.n ∧ b.n ≤ 8589934590) : Small n (relax s b).x (c + 1) := by
  unfold relax
  split
  · intro i hi
    simp only [upd]
    have h1 := h b.f hf
    split
    · omega
    · have := h i hi; omega
  · exact h.mono (by omega)
theorem far_ok {n : Nat} (hn : n ≤ 53) (hn0 : 0 < n) (L : List Bd) (hat : ∀ b ∈ L, b.f < n ∧ b.t < n) (hlo : ∀ b ∈ L, -8589934590 ≤ b.n ∧ b.n ≤ 8589934590) (hL : L.length ≤ 400) {k : Nat} (hk : 500 < k) :
    evF Try.prog Γ (k + 1) 38 [.ros L.length (flatE bE L), .int .i64 n, .int .i64 0] [] = farV n (far L (n + 1) far0) := by
  have z1 := zeros_int n
  have z2 := zeros_bool n
  have h4 : (n : Int) ≤ 140737488355328 := by omega
  have h5 : (n : Int) * 8 ≤ 140737488355328 := by omega
  have h6 : (0 : Int) < n := by omega
  have h7 : 1 ≤ n := by omega
  have e1 : addI .i64 (n : Int) 1 = (n : Int) + 1 := addI_i64 (by omega) (by omega)
  have w0 := boolC_set (n := n) (fun _ => false) (j := 0) hn0 true
  simp at w0
  rw [b38 (fun _ _ => rfl) _ _ (by simp)]
  simp -implicitDefEqProofs [z1, z2, h4, h5, h6, h7, hn0, e1, w0]
  have hx0 : far0.x = fun _ => 0 := rfl
  have hk0 : upd (fun _ => false) 0 true = far0.kn := by
    funext j; simp only [upd, far0]
    by_cases h : j = 0 <;> simp [h]
  generalize hx : evLoopC _ _ _ _ _ _ _ _ _ _ = R
  apply loop_gen hx (fun (a : Nat × BF) => (mkL 80 .junk [(0, .ros L.length (flatE bE L)), (8, .sl 1 0 n 1), (9, .sl 2 0 n 1), (21, .int .i64 ((n : Int) + 1)), (22, .int .i64 a.1)], [none, some (.cells (rowC n a.2.x) true), some (.cells (boolC n a.2.kn) true)]))
    (fun a => a.1 ≤ n + 1 ∧ far L (n + 1 - a.1) a.2 = far L (n + 1) far0 ∧ Small n a.2.x (a.1 * 400)) (fun a => n + 1 - a.1) (0, far0)
  case hI => exact ⟨Nat.zero_le _, rfl, fun i _ => by simp [far0]⟩
  case hq => simp only; omega
  case ht => simp -implicitDefEqProofs [liveOf, hk0, hx0]
  case round =>
    rintro ⟨r, s⟩ ⟨hr, hfar, hsm⟩ _
    clear hx
    simp only at hr hfar hsm
    by_cases hlt : r < n + 1
    · have hlt2 : (r : Int) < (n : Int) + 1 := by omega
      have e3 : addI .i64 (r : Int) 1 = (r : Int) + 1 := addI_i64 (by omega) (by omega)
      rw [show n + 1 - r = (n - r) + 1 by omega, far] at hfar
      have hsm' : Small n (still s).x (r * 400) := hsm
      have hxs : s.x = (still s).x := rfl
      have hks : s.kn = (still s).kn := rfl
      have hch : (still s).ch = false := rfl
      simp -implicitDefEqProofs [hlt, hlt2]
      generalize hy : evLoopC _ _ _ _ _ _ _ _ _ _ = R2
      apply loop_gen hy (fun (a : Nat × BF) => (mkL 80 .junk [(0, .ros L.length (flatE bE L)), (8, .sl 1 0 n 1), (9, .sl 2 0 n 1), (10, .bool a.2.ch), (21, .int .i64 ((n : Int) + 1)), (22, .int .i64 r), (24, .ros L.length (flatE bE L)), (25, .int .i64 L.length), (26, .int .i64 a.1)], [none, some (.cells (rowC n a.2.x) true), some (.cells (boolC n a.2.kn) true), none]))
        (fun a => a.1 ≤ L.length ∧ (L.drop a.1).foldl relax a.2 = L.foldl relax (still s) ∧ Small n a.2.x (r * 400 + a.1)) (fun a => L.length - a.1) (0, still s)
      case hI => exact ⟨Nat.zero_le _, rfl, hsm'⟩
      case hq => simp only; omega
      case ht => simp -implicitDefEqProofs [liveOf, hxs, hks, hch]
      case round =>
        rintro ⟨j, u⟩ ⟨hj, hfold, hsm⟩ _
        clear hy
        simp only at hj hfold hsm
        by_cases hjl : j < L.length
        · have hjl2 : (j : Int) < L.length := by omega
          have ms := at_bds L j hjl
          have h3 : 3 ≤ L.length * 3 - j * 3 := by omega
          rw [List.drop_eq_getElem_cons hjl, List.foldl_cons] at hfold
          have hb := hat L[j] (List.getElem_mem hjl)
          have hbn := hlo L[j] (List.getElem_mem hjl)
          have e4 : addI .i64 (j : Int) 1 = (j : Int) + 1 := addI_i64 (by omega) (by omega)
          generalize L[j] = b at *
          obtain ⟨hf, ht⟩ := hb
          have hf2 : (b.f : Int) < n := by omega
          have ht2 : (b.t : Int) < n := by omega
          have hf3 : b.f + 1 ≤ n := by omega
          have ht3 : b.t + 1 ≤ n := by omega
          have d1 := boolC_drop u.kn hf
          have d2 := boolC_drop u.kn ht
          have d3 := rowC_drop u.x hf
          have d4 := rowC_drop u.x ht
          have hs1 := hsm b.f hf
          have e5 : addI .i64 (u.x b.f) b.n = u.x b.f + b.n := addI_i64 (by omega) (by omega)
          have w1 := rowC_upd u.x ht (u.x b.f + b.n)
          have w2 := boolC_set u.kn ht true
          have hsr := small_relax hsm hf hbn
          have hsr' : Small n (relax u b).x (r * 400 + (j + 1)) := by rw [← Nat.add_assoc]; exact hsr
          cases k1 : u.kn b.f with
          | false =>
            have hrel : relax u b = u := by unfold relax; rw [if_neg (by simp [k1])]
            rw [hrel] at hfold hsr'
            simp -implicitDefEqProofs [hjl, hjl2, ms, h3, e4, e5, hf, ht, hf2, ht2, hf3, ht3, d1, d2, d3, d4, k1]
            exact rnd_next (j + 1, u) ⟨hjl, hfold, hsr'⟩ (by simp only; omega) (by simp -implicitDefEqProofs [liveOf])
          | true =>
            cases k2 : u.kn b.t with
            | false =>
              have hrel : relax u b = ⟨upd u.x b.t (u.x b.f + b.n), upd u.kn b.t true, true⟩ := by unfold relax; rw [if_pos (by simp [k1, k2])]
              rw [hrel] at hfold hsr'
              simp -implicitDefEqProofs [hjl, hjl2, ms, h3, e4, e5, hf, ht, hf2, ht2, hf3, ht3, d1, d2, d3, d4, k1, k2, w1, w2]
              exact rnd_next (j + 1, ⟨upd u.x b.t (u.x b.f + b.n), upd u.kn b.t true, true⟩) ⟨hjl, hfold, hsr'⟩ (by simp only; omega) (by simp -implicitDefEqProofs [liveOf])
            | true =>
              by_cases k3 : u.x b.f + b.n < u.x b.t
              · have hrel : relax u b = ⟨upd u.x b.t (u.x b.f + b.n), upd u.kn b.t true, true⟩ := by unfold relax; rw [if_pos (by simp [k1, k3])]
                rw [hrel] at hfold hsr'
                simp -implicitDefEqProofs [hjl, hjl2, ms, h3, e4, e5, hf, ht, hf2, ht2, hf3, ht3, d1, d2, d3, d4, k1, k2, k3, w1, w2]
                exact rnd_next (j + 1, ⟨upd u.x b.t (u.x b.f + b.n), upd u.kn b.t true, true⟩) ⟨hjl, hfold, hsr'⟩ (by simp only; omega) (by simp -implicitDefEqProofs [liveOf])
              · have hrel : relax u b = u := by unfold relax; rw [if_neg (by simp [k2, k3])]
                rw [hrel] at hfold hsr'
                simp -implicitDefEqProofs [hjl, hjl2, ms, h3, e4, e5, hf, ht, hf2, ht2, hf3, ht3, d1, d2, d3, d4, k1, k2, k3]
                exact rnd_next (j + 1, u) ⟨hjl, hfold, hsr'⟩ (by simp only; omega) (by simp -implicitDefEqProofs [liveOf])
        · obtain rfl : j = L.length := by omega
          have hjl2 : ¬ (L.length : Int) < (L.length : Int) := by omega
          rw [List.drop_of_length_le (Nat.le_refl _), List.foldl_nil] at hfold
          subst hfold
          cases hc : (L.foldl relax (still s)).ch with
          | true =>
            rw [if_pos hc] at hfar
            simp -implicitDefEqProofs [hjl2, hc, e3]
            exact rnd_next (r + 1, L.foldl relax (still s)) ⟨by simp only; omega, by simp only; rw [show n + 1 - (r + 1) = n - r by omega]; exact hfar, hsm.mono (by omega)⟩ (by simp only; omega) (by simp -implicitDefEqProofs [liveOf])
          | false =>
            rw [if_neg (by rw [hc]; simp)] at hfar
            rw [← hfar]
            simp -implicitDefEqProofs [hjl2, hc, farV]
    · obtain rfl : r = n + 1 := by omega
      have hlt2 : ¬ ((n : Int) + 1 < (n : Int) + 1) := by omega
      rw [show n + 1 - (n + 1) = 0 by omega, far] at hfar
      rw [← hfar]
      simp -implicitDefEqProofs [hlt2, farV]
end Go.Ev.Try
